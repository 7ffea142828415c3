/- States as messages: what the reference writes. -/
import Derived.Test.YtlnpfnoemhjheaaGreatDoorRRn4
import Derived.Test.YtlnpfnoemhjheaaGreatDoorRRn2
namespace Go.Proofs.YtlnpfnoemhjheaaGreatDoor
open Go Go.AL
set_option linter.unusedSectionVars false
variable [Go.AL.Mode] [Go.AL.LooseM]
set_option linter.unusedSimpArgs false
set_option linter.unusedVariables false
set_option maxHeartbeats 4000000 in
set_option maxRecDepth 10000 in
theorem rencode_A (l : List St) (hl : l.length ≤ 60) (hx : ∀ x ∈ l, okX x) (S : Store) : CallA Tryz.prog 7 [stSl l] S fun r S' => r = Ed.printV (l.map lnOf) ∧ S' = S := by
  refine CallA.withNeat Tryz.func7 c9007 fun hn => ?_
  refine CallA.keep Tryz.func7 c9007 (Nat.le_of_ble_eq_true rfl) fun σ hσ => ?_
  have hpr : CallA Tryz.prog 27 [.sl 2 (l.map fun x => Ed.lnR (lnOf x))] S fun r S' => r = Ed.printV (l.map lnOf) ∧ S' = S := by
    have := Ed.refPrint_A (l.map lnOf) S (by have := szL_of l hx; omega)
    unfold Ed.lnV at this
    rw [List.map_map] at this
    exact this
  simp (disch := first | omega | (simp only [lenT]; omega)) only [a9007, stSl, evSt, ↓evPre, ↓evPreW, evPost, evPostW, evR, evU, seval]
  refine loopF (ι := Nat × V × Store) (fun i => [(0, .sl 4 (l.map stR)), (4, i.2.1), (5, .int .i64 (i.1 : Nat))]) (fun i => i.2.2)
    (fun i => i.1 ≤ l.length ∧ (∃ T, i.2.2 = S ++ T) ∧ (i.1 < l.length → LG S 58 2 ((l.take i.1).map fun x => Ed.lnR (lnOf x)) i.2.1 i.2.2) ∧ (i.1 = l.length → i.2.1 = .sl 2 (l.map fun x => Ed.lnR (lnOf x)) ∧ i.2.2 = S)) (fun i => l.length - i.1)
    (fun i hi => by rw [hσ]; obtain ⟨T, hT⟩ := hi.2.1; rw [hT]; simp) (0, if l.length = 0 then .sl 2 [] else .nilSl, S) ⟨Nat.zero_le _, ⟨[], by simp⟩, fun h => by rw [if_neg (by simp only at h; omega)]; exact LG.nil0, fun h => by rw [if_pos h.symm, List.eq_nil_of_length_eq_zero h.symm]; exact ⟨rfl, rfl⟩⟩ ?_ ?_
  · by_cases hz : l.length = 0
    · refine .inr ⟨hn.self, ?_⟩
      rw [if_pos hz]
      simp only [subF, ↓evPre, ↓evPreW, evPost, evPostW, evR, evU, seval]
      exact ⟨.imm rfl, .nil, .imm rfl⟩
    · refine .inl ⟨?_, rfl⟩
      rw [if_neg hz]
      simp only [↓evPre, ↓evPreW, evPost, evPostW, evR, evU, seval]
      try rfl
  rintro ⟨k, v, S1⟩ ⟨hk, ⟨T, hT⟩, hg, hfr⟩
  simp only at hk hT hg hfr ⊢
  cases hc : l[k]? with
  | none =>
    have hge := List.getElem?_eq_none_iff.1 hc
    have hlt : ¬ ((k : Int) < l.length) := by omega
    obtain ⟨rfl, rfl⟩ := hfr (by omega)
    simp (disch := first | omega | (simp only [lenT]; omega)) only [decide_eq_false hlt, evSt, ↓evPre, ↓evPreW, evPost, evPostW, evR, evU, seval]
    refine hpr.then ?_
    unfold Ed.printV
    split <;> simp (disch := first | omega | (simp only [lenT]; omega)) only [evSt, ↓evPre, ↓evPreW, evPost, evPostW, evR, evU, seval]
  | some x =>
    have hlt' := (List.getElem?_eq_some_iff.1 hc).1
    have hlt : (k : Int) < l.length := by omega
    have hg := hg (by omega)
    have hk1 : (k : Int) + 1 = ((k + 1 : Nat) : Int) := by omega
    obtain ⟨⟨t0, t1⟩, ⟨c0, c1⟩, ⟨v0, v1⟩, ⟨s0, s1⟩⟩ := hx x (List.mem_of_getElem? hc)
    simp (disch := first | omega | (simp only [lenT]; omega)) only [decide_eq_true hlt, hc, stR, evSt, ↓evPre, ↓evPreW, evPost, evPostW, evR, evU, seval]
    have dt := fun S => rdecimal_A (S := S) x.t t0 t1
    have dc := fun S => rdecimal_A (S := S) x.c c0 c1
    have dv := fun S => rdecimal_A (S := S) x.v v0 v1
    have ds := fun S => rdecimal_A (S := S) x.s s0 s1
    refine exD.intro (dt S1) ?_
    simp (disch := first | omega | (simp only [lenT]; omega)) only [evSt, ↓evPre, ↓evPreW, evPost, evPostW, evR, evU, seval]
    refine ⟨fun S2 => dt S2, ?_⟩
    refine exD.intro (dc S1) ?_
    simp (disch := first | omega | (simp only [lenT]; omega)) only [evSt, ↓evPre, ↓evPreW, evPost, evPostW, evR, evU, seval]
    refine ⟨fun S2 => dc S2, ?_⟩
    refine exD.intro (dv S1) ?_
    simp (disch := first | omega | (simp only [lenT]; omega)) only [evSt, ↓evPre, ↓evPreW, evPost, evPostW, evR, evU, seval]
    refine ⟨fun S2 => dv S2, ?_⟩
    refine ⟨?_, ?_⟩
    · refine (ds _).then ?_
      simp (disch := first | omega | (simp only [lenT]; omega)) only [evSt, ↓evPre, ↓evPreW, evPost, evPostW, evR, evU, seval]
      refine (hg.add _).app (by simp; omega) fun v' S2 h2 => ?_
      have htk : (l.take (k + 1)).map (fun x => Ed.lnR (lnOf x)) = (l.take k).map (fun x => Ed.lnR (lnOf x)) ++ [Ed.lnR (lnOf x)] := by
        rw [List.take_add_one, hc]
        simp
      rw [show [[V.str [67, 80, 78], V.sl 1 [[V.sl 1 [[V.str (Lib.itoa x.t)]]], [V.sl 1 [[V.str (Lib.itoa x.c)]]], [V.sl 1 [[V.str (Lib.itoa x.v)]]], [V.sl 1 [[V.str (Lib.itoa x.s)]]]]]] = [Ed.lnR (lnOf x)] from rfl, ← htk] at h2
      simp (disch := first | omega | (simp only [lenT]; omega)) only [wrap_i64, hk1, evSt, ↓evPre, ↓evPreW, evPost, evPostW, evR, evU, seval]
      by_cases hlast : k + 1 = l.length
      · have hfin := h2.fin hn (fun r hr => ln_imm _ r hr)
        rw [List.take_of_length_le (by omega)] at hfin
        exact ⟨(k + 1, .sl 2 (l.map fun x => Ed.lnR (lnOf x)), S), ⟨by simp only; omega, ⟨[], by simp⟩, fun h => by simp only at h; omega, fun _ => ⟨rfl, rfl⟩⟩, by simp only; omega, .inr ⟨hfin.1, by simp only [subF, ↓evPre, ↓evPreW, evPost, evPostW, evR, evU, seval]; exact ⟨.imm rfl, hfin.2, .imm rfl⟩⟩⟩
      · exact ⟨(k + 1, v', S2), ⟨by simp only; omega, h2.ext, fun _ => h2, fun h => by simp only at h; omega⟩, by simp only; omega, .inl ⟨by simp only [stR, ↓evPre, ↓evPreW, evPost, evPostW, evR, evU, seval]; try rfl, rfl⟩⟩
    · refine (ds _).then ?_
      simp (disch := first | omega | (simp only [lenT]; omega)) only [evSt, ↓evPre, ↓evPreW, evPost, evPostW, evR, evU, seval]
      refine (hg.add _).app (by simp; omega) fun v' S2 h2 => ?_
      have htk : (l.take (k + 1)).map (fun x => Ed.lnR (lnOf x)) = (l.take k).map (fun x => Ed.lnR (lnOf x)) ++ [Ed.lnR (lnOf x)] := by
        rw [List.take_add_one, hc]
        simp
      rw [show [[V.str [67, 80, 78], V.sl 1 [[V.sl 1 [[V.str (Lib.itoa x.t)]]], [V.sl 1 [[V.str (Lib.itoa x.c)]]], [V.sl 1 [[V.str (Lib.itoa x.v)]]], [V.sl 1 [[V.str (Lib.itoa x.s)]]]]]] = [Ed.lnR (lnOf x)] from rfl, ← htk] at h2
      simp (disch := first | omega | (simp only [lenT]; omega)) only [wrap_i64, hk1, evSt, ↓evPre, ↓evPreW, evPost, evPostW, evR, evU, seval]
      by_cases hlast : k + 1 = l.length
      · have hfin := h2.fin hn (fun r hr => ln_imm _ r hr)
        rw [List.take_of_length_le (by omega)] at hfin
        exact ⟨(k + 1, .sl 2 (l.map fun x => Ed.lnR (lnOf x)), S), ⟨by simp only; omega, ⟨[], by simp⟩, fun h => by simp only at h; omega, fun _ => ⟨rfl, rfl⟩⟩, by simp only; omega, .inr ⟨hfin.1, by simp only [subF, ↓evPre, ↓evPreW, evPost, evPostW, evR, evU, seval]; exact ⟨.imm rfl, hfin.2, .imm rfl⟩⟩⟩
      · exact ⟨(k + 1, v', S2), ⟨by simp only; omega, h2.ext, fun _ => h2, fun h => by simp only at h; omega⟩, by simp only; omega, .inl ⟨by simp only [stR, ↓evPre, ↓evPreW, evPost, evPostW, evR, evU, seval]; try rfl, rfl⟩⟩
end Go.Proofs.YtlnpfnoemhjheaaGreatDoor
/- States as messages: what the reference reads. -/
namespace Go.Proofs.YtlnpfnoemhjheaaGreatDoor
open Go Go.AL
set_option linter.unusedSectionVars false
variable [Go.AL.Mode] [Go.AL.LooseM]
set_option linter.unusedSimpArgs false
set_option linter.unusedVariables false
set_option maxHeartbeats 4000000 in
set_option maxRecDepth 10000 in
theorem rdecode_A (s : Tx) (S : Store) : CallA Tryz.prog 9 [.str s] S fun r S' => r = .tup [stSl (decF s).1, .int .i64 (decF s).2] ∧ S' = S := by
  refine CallA.withNeat Tryz.func9 c9009 fun hn => ?_
  refine CallA.fin Tryz.func9 c9009 (Nat.le_of_ble_eq_true rfl) fun σ hσ => ?_
  have hp := fun S => Ed.refParse_A s S
  rw [Ed.parseV_eq] at hp
  have hsz : (Ed.parsed s).2.2 = 0 → Ed.szL (Ed.parsed s).1 ≤ 200000 := fun h => by
    by_cases hl : s.length ≤ 65536
    · have := Ed.parsed_sz s hl
      omega
    · unfold Ed.parsed at h
      rw [if_pos (by omega)] at h
      cases h
  have hdec : decF s = if (Ed.parsed s).2.2 ≠ 0 then (([], 3) : List St × Int) else match allF (Ed.parsed s).1 with
    | some l => (l, 0)
    | none => ([], 3) := rfl
  generalize decF s = D at hdec ⊢
  generalize Ed.parsed s = pr at hp hsz hdec
  obtain ⟨ls, n, e⟩ := pr
  simp only at hp hsz hdec
  unfold Ed.lnV at hp
  simp (disch := first | omega | (simp only [lenT]; omega)) only [a9009, evSt, ↓evPre, ↓evPreW, evPost, evPostW, evR, evU, seval]
  refine (hp S).then ?_
  by_cases he : e = 0
  case neg =>
    rw [hdec, if_pos he]
    simp (disch := first | omega | (simp only [lenT]; omega)) only [decide_eq_false he, Bool.not_false, evSt, ↓evPre, ↓evPreW, evPost, evPostW, evR, evU, seval]
    exact ⟨_, S, hn.self, .tup2 .nil (.imm rfl), Nat.le_refl _, rfl, rfl⟩
  obtain ⟨hl1, hl2⟩ := small_parts (hsz he)
  rw [hdec, if_neg (by simpa using he)]
  clear hdec hsz hp
  simp (disch := first | omega | (simp only [lenT]; omega)) only [decide_eq_true he, Bool.not_true, evSt, ↓evPre, ↓evPreW, evPost, evPostW, evR, evU, seval]
  refine loopA (ι := Nat × List St × V × Store) (fun i => [(4, .sl 2 (ls.map Ed.lnR)), (7, i.2.2.1), (8, .int .i64 (i.1 : Nat))]) (fun i => i.2.2.2)
    (fun i => i.1 ≤ ls.length ∧ allF (ls.take i.1) = some i.2.1 ∧ i.2.1.length ≤ i.1 ∧ LG S 41 4 (i.2.1.map stR) i.2.2.1 i.2.2.2) (fun i => ls.length - i.1) (0, [], .nilSl, S) ⟨Nat.zero_le _, rfl, Nat.le_refl _, LG.nil0⟩ ?_ rfl ?_
  · simp only [↓evPre, ↓evPreW, evPost, evPostW, evR, evU, seval]
    try rfl
  rintro ⟨k, l1, v, S1⟩ ⟨hk, ha0, hll, hg⟩
  simp only at hk ha0 hll hg ⊢
  cases hc0 : ls[k]? with
  | none =>
    have hge := List.getElem?_eq_none_iff.1 hc0
    have hlt : ¬ ((k : Int) < ls.length) := by omega
    rw [List.take_of_length_le hge] at ha0
    simp (disch := first | omega | (simp only [lenT]; omega)) only [decide_eq_false hlt, evSt, ↓evPre, ↓evPreW, evPost, evPostW, evR, evU, seval]
    have hfin := hg.fin hn (stR_imm _)
    exact ⟨_, S, hfin.1, .tup2 hfin.2 (.imm rfl), Nat.le_refl _, by rw [ha0]; rfl, rfl⟩
  | some x =>
    have hlt' := (List.getElem?_eq_some_iff.1 hc0).1
    have hlt : (k : Int) < ls.length := by omega
    have hk1 : (k : Int) + 1 = ((k + 1 : Nat) : Int) := by omega
    have hxm := List.mem_of_getElem? hc0
    have htk : ls.take (k + 1) = ls.take k ++ [x] := by rw [List.take_add_one, hc0]; rfl
    obtain ⟨hf1, hf⟩ := hl2 x hxm
    have bad : ∀ (T : Store), stateF x = none → ∃ r1 S2, Fgt (S1 ++ T) S2 ∧ Frz (S1 ++ T) S2 (.tup [.nilSl, .int .i64 3]) r1 ∧ S.length ≤ S2.length ∧ r1 = .tup [stSl (match allF ls with | some l => (l, 0) | none => (([], 3) : List St × Int)).1, .int .i64 (match allF ls with | some l => (l, 0) | none => (([], 3) : List St × Int)).2] ∧ S2 = S := fun T h => by
      rw [allF_none hxm h]
      exact ⟨_, S, (hg.add _).fgt hn, .tup2 .nil (.imm rfl), Nat.le_refl _, rfl, rfl⟩
    obtain ⟨tg, els⟩ := x
    simp only at hf1 hf
    by_cases ht : tg = cpn
    case neg =>
      have e : stateF ⟨tg, els⟩ = none := by unfold stateF; rw [if_neg ht]
      unfold cpn at ht
      simp (disch := first | omega | (simp only [lenT]; omega)) only [decide_eq_true hlt, hc0, Ed.lnR, Ed.elV, decide_eq_false ht, Bool.not_false, evSt, ↓evPre, ↓evPreW, evPost, evPostW, evR, evU, seval]
      exact bad _ e
    have ht' := ht
    unfold cpn at ht'
    by_cases h4 : ((els.length : Nat) : Int) = 4
    case neg =>
      have e : stateF ⟨tg, els⟩ = none := by
        unfold stateF
        rw [if_pos ht]
        match els, h4 with
        | [], _ => rfl
        | [a], _ => rfl
        | [a, b], _ => rfl
        | [a, b, c], _ => rfl
        | a :: b :: c :: d :: f :: r, _ => rfl
        | [a, b, c, d], h => exact absurd rfl h
      simp (disch := first | omega | (simp only [lenT]; omega)) only [decide_eq_true hlt, hc0, Ed.lnR, Ed.elV, decide_eq_true ht', decide_eq_false h4, Bool.not_true, Bool.not_false, evSt, ↓evPre, ↓evPreW, evPost, evPostW, evR, evU, seval]
      exact bad _ e
    obtain ⟨a, b, c, d, rfl, hst⟩ := stateF_eq tg els ht (by omega)
    obtain ⟨R, hR⟩ : ∃ R, R = (match elF a, elF b, elF c, elF d with
        | some t, some k, some v, some s => some (St.mk t k v s)
        | _, _, _, _ => none) := ⟨_, rfl⟩
    replace hst : stateF ⟨tg, [a, b, c, d]⟩ = R := hst.trans hR.symm
    replace hR := hR.symm
    simp (disch := first | omega | (simp only [lenT]; omega)) only [decide_eq_true hlt, hc0, Ed.lnR, Ed.elV, decide_eq_true ht', decide_eq_true h4, Bool.not_true, evSt, ↓evPre, ↓evPreW, evPost, evPostW, evR, evU, seval]
    have none_a : elF a = none → R = none := fun h => by rw [← hR, h]
    have none_b : elF b = none → R = none := fun h => by rw [← hR, h]; cases elF a <;> rfl
    have none_c : elF c = none → R = none := fun h => by rw [← hR, h]; cases elF a <;> cases elF b <;> rfl
    have none_d : elF d = none → R = none := fun h => by rw [← hR, h]; cases elF a <;> cases elF b <;> cases elF c <;> rfl
    have ha := hf a (by simp)
    have hb := hf b (by simp)
    have hc := hf c (by simp)
    have hd := hf d (by simp)
    obtain ⟨na, hna⟩ : ∃ n, n = (elF a).getD 0 := ⟨_, rfl⟩
    obtain ⟨nb, hnb⟩ : ∃ n, n = (elF b).getD 0 := ⟨_, rfl⟩
    obtain ⟨nc, hnc⟩ : ∃ n, n = (elF c).getD 0 := ⟨_, rfl⟩
    obtain ⟨nd, hnd⟩ : ∃ n, n = (elF d).getD 0 := ⟨_, rfl⟩
    refine loopA (ι := Nat) (fun j => [(4, .sl 2 (ls.map Ed.lnR)), (7, v), (8, .int .i64 (k : Nat)), (9, .ptr S1.length 0 0 0), (10, .ptr (S1.length + 1) 0 0 0), (11, .int .i64 (j : Nat))])
      (fun j => S1 ++ [⟨0, some (.arr 58 2 [[.str tg, .sl 1 [Ed.elR a, Ed.elR b, Ed.elR c, Ed.elR d]]])⟩, ⟨0, some (.arr 68 4 [rowN na nb nc nd j])⟩])
      (fun j => j ≤ 4 ∧ (0 < j → elF a = some na) ∧ (1 < j → elF b = some nb) ∧ (2 < j → elF c = some nc) ∧ (3 < j → elF d = some nd)) (fun j => 4 - j) 0 ⟨by omega, fun h => by omega, fun h => by omega, fun h => by omega, fun h => by omega⟩ ?_ ?_ ?_
    · simp only [Ed.lnR, Ed.elV, ↓evPre, ↓evPreW, evPost, evPostW, evR, evU, seval]
      try rfl
    · simp only [rowN, Ed.elV, List.map_cons, List.map_nil]
    rintro j ⟨hj, ia, ib, ic, id⟩
    match j, hj, ia, ib, ic, id with
    | 0, _, ia, ib, ic, id =>
      by_cases h1 : (((a : List Tx).length : Nat) : Int) = 1
      case neg =>
        have e := none_a (elF_len (by omega))
        simp (disch := first | omega | (simp only [lenT]; omega)) only [Ed.elR, Ed.cmV, rowN, decide_eq_false h1, Bool.not_false, evSt, ↓evPre, ↓evPreW, evPost, evPostW, evR, evU, seval]
        exact bad _ (hst.trans e)
      obtain ⟨t, ht1⟩ : ∃ t, a = [t] := by
        match a, h1 with
        | [t], _ => exact ⟨t, rfl⟩
      have hnum := fun S => rnumber_A t (ha.2 t (by rw [ht1]; simp)) S
      rw [ht1] at h1
      simp (disch := first | omega | (simp only [lenT]; omega)) only [Ed.elR, Ed.cmV, rowN, ht1, decide_eq_true h1, List.map_cons, List.map_nil, Ed.cmR, Bool.not_true, evSt, ↓evPre, ↓evPreW, evPost, evPostW, evR, evU, seval]
      refine (hnum _).then ?_
      by_cases h0 : (numF t).2 = 0
      · have he : elF a = some na := by rw [hna, ht1, elF_one h0]; rfl
        have hv : (numF t).1 = na := by rw [hna, ht1, elF_one h0]; rfl
        simp (disch := first | omega | (simp only [lenT]; omega)) only [decide_eq_true h0, hv, Bool.not_true, evSt, ↓evPre, ↓evPreW, evPost, evPostW, evR, evU, seval]
        rw [ht1] at he
        exact ⟨1, ⟨by omega, fun _ => he, fun h => by omega, fun h => by omega, fun h => by omega⟩, by omega, by simp only [Ed.elR, Ed.cmV, Ed.cmR, Ed.lnR, ht1, ↓evPre, ↓evPreW, evPost, evPostW, evR, evU, seval]; try rfl, rfl⟩
      · have e := none_a (by rw [ht1]; exact elF_bad h0)
        simp (disch := first | omega | (simp only [lenT]; omega)) only [decide_eq_false h0, Bool.not_false, evSt, ↓evPre, ↓evPreW, evPost, evPostW, evR, evU, seval]
        exact bad _ (hst.trans e)
    | 1, _, ia, ib, ic, id =>
      by_cases h1 : (((b : List Tx).length : Nat) : Int) = 1
      case neg =>
        have e := none_b (elF_len (by omega))
        simp (disch := first | omega | (simp only [lenT]; omega)) only [Ed.elR, Ed.cmV, rowN, decide_eq_false h1, Bool.not_false, evSt, ↓evPre, ↓evPreW, evPost, evPostW, evR, evU, seval]
        exact bad _ (hst.trans e)
      obtain ⟨t, ht1⟩ : ∃ t, b = [t] := by
        match b, h1 with
        | [t], _ => exact ⟨t, rfl⟩
      have hnum := fun S => rnumber_A t (hb.2 t (by rw [ht1]; simp)) S
      rw [ht1] at h1
      simp (disch := first | omega | (simp only [lenT]; omega)) only [Ed.elR, Ed.cmV, rowN, ht1, decide_eq_true h1, List.map_cons, List.map_nil, Ed.cmR, Bool.not_true, evSt, ↓evPre, ↓evPreW, evPost, evPostW, evR, evU, seval]
      refine (hnum _).then ?_
      by_cases h0 : (numF t).2 = 0
      · have he : elF b = some nb := by rw [hnb, ht1, elF_one h0]; rfl
        have hv : (numF t).1 = nb := by rw [hnb, ht1, elF_one h0]; rfl
        simp (disch := first | omega | (simp only [lenT]; omega)) only [decide_eq_true h0, hv, Bool.not_true, evSt, ↓evPre, ↓evPreW, evPost, evPostW, evR, evU, seval]
        rw [ht1] at he
        exact ⟨2, ⟨by omega, fun _ => ia (by omega), fun _ => he, fun h => by omega, fun h => by omega⟩, by omega, by simp only [Ed.elR, Ed.cmV, Ed.cmR, Ed.lnR, ht1, ↓evPre, ↓evPreW, evPost, evPostW, evR, evU, seval]; try rfl, rfl⟩
      · have e := none_b (by rw [ht1]; exact elF_bad h0)
        simp (disch := first | omega | (simp only [lenT]; omega)) only [decide_eq_false h0, Bool.not_false, evSt, ↓evPre, ↓evPreW, evPost, evPostW, evR, evU, seval]
        exact bad _ (hst.trans e)
    | 2, _, ia, ib, ic, id =>
      by_cases h1 : (((c : List Tx).length : Nat) : Int) = 1
      case neg =>
        have e := none_c (elF_len (by omega))
        simp (disch := first | omega | (simp only [lenT]; omega)) only [Ed.elR, Ed.cmV, rowN, decide_eq_false h1, Bool.not_false, evSt, ↓evPre, ↓evPreW, evPost, evPostW, evR, evU, seval]
        exact bad _ (hst.trans e)
      obtain ⟨t, ht1⟩ : ∃ t, c = [t] := by
        match c, h1 with
        | [t], _ => exact ⟨t, rfl⟩
      have hnum := fun S => rnumber_A t (hc.2 t (by rw [ht1]; simp)) S
      rw [ht1] at h1
      simp (disch := first | omega | (simp only [lenT]; omega)) only [Ed.elR, Ed.cmV, rowN, ht1, decide_eq_true h1, List.map_cons, List.map_nil, Ed.cmR, Bool.not_true, evSt, ↓evPre, ↓evPreW, evPost, evPostW, evR, evU, seval]
      refine (hnum _).then ?_
      by_cases h0 : (numF t).2 = 0
      · have he : elF c = some nc := by rw [hnc, ht1, elF_one h0]; rfl
        have hv : (numF t).1 = nc := by rw [hnc, ht1, elF_one h0]; rfl
        simp (disch := first | omega | (simp only [lenT]; omega)) only [decide_eq_true h0, hv, Bool.not_true, evSt, ↓evPre, ↓evPreW, evPost, evPostW, evR, evU, seval]
        rw [ht1] at he
        exact ⟨3, ⟨by omega, fun _ => ia (by omega), fun _ => ib (by omega), fun _ => he, fun h => by omega⟩, by omega, by simp only [Ed.elR, Ed.cmV, Ed.cmR, Ed.lnR, ht1, ↓evPre, ↓evPreW, evPost, evPostW, evR, evU, seval]; try rfl, rfl⟩
      · have e := none_c (by rw [ht1]; exact elF_bad h0)
        simp (disch := first | omega | (simp only [lenT]; omega)) only [decide_eq_false h0, Bool.not_false, evSt, ↓evPre, ↓evPreW, evPost, evPostW, evR, evU, seval]
        exact bad _ (hst.trans e)
    | 3, _, ia, ib, ic, id =>
      by_cases h1 : (((d : List Tx).length : Nat) : Int) = 1
      case neg =>
        have e := none_d (elF_len (by omega))
        simp (disch := first | omega | (simp only [lenT]; omega)) only [Ed.elR, Ed.cmV, rowN, decide_eq_false h1, Bool.not_false, evSt, ↓evPre, ↓evPreW, evPost, evPostW, evR, evU, seval]
        exact bad _ (hst.trans e)
      obtain ⟨t, ht1⟩ : ∃ t, d = [t] := by
        match d, h1 with
        | [t], _ => exact ⟨t, rfl⟩
      have hnum := fun S => rnumber_A t (hd.2 t (by rw [ht1]; simp)) S
      rw [ht1] at h1
      simp (disch := first | omega | (simp only [lenT]; omega)) only [Ed.elR, Ed.cmV, rowN, ht1, decide_eq_true h1, List.map_cons, List.map_nil, Ed.cmR, Bool.not_true, evSt, ↓evPre, ↓evPreW, evPost, evPostW, evR, evU, seval]
      refine (hnum _).then ?_
      by_cases h0 : (numF t).2 = 0
      · have he : elF d = some nd := by rw [hnd, ht1, elF_one h0]; rfl
        have hv : (numF t).1 = nd := by rw [hnd, ht1, elF_one h0]; rfl
        simp (disch := first | omega | (simp only [lenT]; omega)) only [decide_eq_true h0, hv, Bool.not_true, evSt, ↓evPre, ↓evPreW, evPost, evPostW, evR, evU, seval]
        rw [ht1] at he
        exact ⟨4, ⟨by omega, fun _ => ia (by omega), fun _ => ib (by omega), fun _ => ic (by omega), fun _ => he⟩, by omega, by simp only [Ed.elR, Ed.cmV, Ed.cmR, Ed.lnR, ht1, ↓evPre, ↓evPreW, evPost, evPostW, evR, evU, seval]; try rfl, rfl⟩
      · have e := none_d (by rw [ht1]; exact elF_bad h0)
        simp (disch := first | omega | (simp only [lenT]; omega)) only [decide_eq_false h0, Bool.not_false, evSt, ↓evPre, ↓evPreW, evPost, evPostW, evR, evU, seval]
        exact bad _ (hst.trans e)
    | 4, _, ia, ib, ic, id =>
      rw [ia (by omega), ib (by omega), ic (by omega), id (by omega)] at hR
      have hsx := hst.trans hR.symm
      have ha2 : allF (ls.take (k + 1)) = some (l1 ++ [St.mk na nb nc nd]) := by rw [htk, allF_snoc, ha0, hsx]
      simp (disch := first | omega | (simp only [lenT]; omega)) only [rowN, evSt, ↓evPre, ↓evPreW, evPost, evPostW, evR, evU, seval]
      refine (hg.add _).app (by simp; omega) fun v' S2 h2 => ?_
      rw [show [[V.int .i64 na, V.int .i64 nb, V.int .i64 nc, V.int .i64 nd]] = [St.mk na nb nc nd].map stR from rfl, ← List.map_append] at h2
      simp (disch := first | omega | (simp only [lenT]; omega)) only [wrap_i64, hk1, evSt, ↓evPre, ↓evPreW, evPost, evPostW, evR, evU, seval]
      refine ⟨(k + 1, l1 ++ [St.mk na nb nc nd], v', S2), ⟨by simp only; omega, ha2, by simp only [List.length_append, List.length_singleton]; omega, h2⟩, by simp only; omega, ?_⟩
      first | exact ⟨⟨rfl, rfl, rfl⟩, rfl⟩ | exact ⟨rfl, rfl⟩ | (simp only [Ed.lnR, Ed.elV, ↓evPre, ↓evPreW, evPost, evPostW, evR, evU, seval]; try exact ⟨rfl, rfl⟩)
end Go.Proofs.YtlnpfnoemhjheaaGreatDoor
