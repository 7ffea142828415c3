/- Shares: the one that fits; the segment that is operated; the segment that is sold. -/
import Derived.Test.YtiihkfjbllpiaaaGreatDoorQScdC
import Derived.Test.YtiihkfjbllpiaaaGreatDoorQSchJ
import Derived.Test.YtiihkfjbllpiaaaGreatDoorQSchI
namespace Go.Proofs.YtiihkfjbllpiaaaGreatDoor
open Go Go.AL
set_option linter.unusedSectionVars false
variable [Go.AL.Mode] [Go.AL.LooseM]
set_option linter.unusedSimpArgs false
set_option linter.unusedVariables false

def noSr : List V := [.str [], .int .i64 0, .int .i64 0, .int .i64 0, .int .i64 0, .str [], .int .i64 0, .str [], .str []]
def srO (o : Option Sr) : V := match o with
  | some x => .tup [.agg (srR x), .bool true]
  | none => .tup [.agg noSr, .bool false]
theorem fits_A (x : Sr) (c : Txt) (n day : Int) (f t : Txt) (S : Store) : CallA Tryz.prog 83 [.agg (srR x), .str c, .int .i64 n, .int .i64 day, .str f, .str t] S fun r S' => r = .bool (fitsF x c n day f t) ∧ S' = S := by
  refine CallA.keep Tryz.func83 c583 (Nat.le_of_ble_eq_true rfl) fun σ hσ => ?_
  have hh := fun S => rhas_A x.p day S
  simp only [pdR] at hh
  unfold fitsF
  cases h1 : decide (x.c = c) <;> cases h2 : decide (x.n = n) <;> cases h3 : decide (x.f = f) <;> cases h4 : decide (x.t = t) <;> simp (disch := first | omega | (simp only [lenT]; omega)) only [a583, srR, h1, h2, h3, h4, Bool.true_and, Bool.false_and, evSt, ↓evPre, ↓evPreW, evPost, evPostW, evR, evU, seval]
  refine (hh _).then ?_
  simp (disch := first | omega | (simp only [lenT]; omega)) only [evSt, ↓evPre, ↓evPreW, evPost, evPostW, evR, evU, seval]
theorem noSr_imm : ∀ r ∈ [noSr], r.length = 9 ∧ V.allImm r = true := fun r hr => by
  rw [List.mem_singleton] at hr
  subst hr
  exact ⟨rfl, rfl⟩
set_option maxHeartbeats 4000000 in
theorem shfind_A (sh : List Sr) (c : Txt) (n day : Int) (f t : Txt) (hl : sh.length ≤ 1100000) (S : Store) : CallA Tryz.prog 82 [.sl 9 (sh.map srR), .str c, .int .i64 n, .int .i64 day, .str f, .str t] S fun r S' => r = srO (shareF sh c n day f t) ∧ S' = S := by
  refine CallA.withNeat Tryz.func82 c582 fun hn => ?_
  refine CallA.fin Tryz.func82 c582 (Nat.le_of_ble_eq_true rfl) fun σ hσ => ?_
  simp (disch := first | omega | (simp only [lenT]; omega)) only [a582, evSt, ↓evPre, ↓evPreW, evPost, evPostW, evR, evU, seval]
  refine loopF (ι := Nat) (fun k => [(1, .str c), (2, .int .i64 n), (3, .int .i64 day), (4, .str f), (5, .str t), (12, .ptr S.length 0 0 0), (16, .sl 9 (sh.map srR)), (17, .int .i64 sh.length), (18, .int .i64 (k : Nat))]) (fun _ => S ++ [⟨0, some (.arr 108 9 [noSr])⟩]) (fun k => k ≤ sh.length ∧ sh.find? (fun x => fitsF x c n day f t) = (sh.drop k).find? (fun x => fitsF x c n day f t)) (fun k => sh.length - k) (fun i hi => by rw [hσ]; simp) 0 ⟨Nat.zero_le _, rfl⟩ (.inl ⟨?_, rfl⟩) ?_
  · simp only [↓evPre, ↓evPreW, evPost, evPostW, evR, evU, seval]
  · rintro k ⟨hk, hinv⟩
    cases hc : sh[k]? with
    | none =>
      have hlt : ¬ ((k : Int) < sh.length) := by rw [List.getElem?_eq_none_iff] at hc; omega
      have hf : shareF sh c n day f t = none := find_end hinv hc
      simp (disch := first | omega | (simp only [lenT]; omega)) only [hf, srO, noSr, dF hlt, evSt, ↓evPre, ↓evPreW, evPost, evPostW, evR, evU, seval]
      exact ⟨_, S, hn.fgt _, .imm rfl, Nat.le_refl _, rfl, rfl⟩
    | some x =>
      have hlt' := (List.getElem?_eq_some_iff.1 hc).1
      have hlt : (k : Int) < sh.length := by omega
      have hk1 : (k : Int) + 1 = ((k + 1 : Nat) : Int) := by omega
      have hh := fun S => has_A x.p day S
      simp only [pdR] at hh
      have hfit : fitsF x c n day f t = (decide (x.c = c) && (decide (x.n = n) && (decide (x.f = f) && (decide (x.t = t) && hasF x.p day)))) := rfl
      cases h1 : decide (x.c = c) <;> cases h2 : decide (x.n = n) <;> cases h3 : decide (x.f = f) <;> cases h4 : decide (x.t = t) <;> simp (disch := first | omega | (simp only [lenT]; omega)) only [srR, noSr, wrap_i64, hk1, hc, dT hlt, h1, h2, h3, h4, evSt, ↓evPre, ↓evPreW, evPost, evPostW, evR, evU, seval]
      case' true.true.true.true =>
        refine (hh _).then ?_
        cases h5 : hasF x.p day <;> simp (disch := first | omega | (simp only [lenT]; omega)) only [srR, noSr, wrap_i64, hk1, evSt, ↓evPre, ↓evPreW, evPost, evPostW, evR, evU, seval]
      case' true.true.true.true.true =>
        have hq : fitsF x c n day f t = true := by rw [hfit, h1, h2, h3, h4, h5]; rfl
        have hf : shareF sh c n day f t = some x := find_hit hinv hc hq
        exact ⟨_, S, hn.fgt _, .imm rfl, Nat.le_refl _, by rw [hf]; rfl, rfl⟩
      all_goals
        refine ⟨k + 1, ⟨by omega, find_next hinv hc (by simp only [*, Bool.true_and, Bool.and_false, Bool.false_and])⟩, by omega, back_under ?_ (by simp only [↓evPre, ↓evPreW, evPost, evPostW, evR, evU, seval]; try rfl) (by simp [V.under])⟩
        exact hn.fgtL (L := [_, _]) (L1 := [_]) ⟨rfl, ⟨_, rfl, .imm noSr_imm⟩, trivial⟩
theorem opr_none {sh : List Sr} {s : Sg} (h : shareF sh s.c s.n s.day s.f s.t = none) : oprF sh s = s := by unfold oprF; rw [h]
theorem opr_some {sh : List Sr} {s : Sg} {x : Sr} (h : shareF sh s.c s.n s.day s.f s.t = some x) : oprF sh s = asS s x.oc x.oas := by unfold oprF; rw [h]
theorem opr_A (sh : List Sr) (s : Sg) (hl : sh.length ≤ 1100000) (S : Store) : CallA Tryz.prog 35 [.sl 9 (sh.map srR), .agg (sgR s)] S fun r S' => r = .agg (sgR (oprF sh s)) ∧ S' = S := by
  refine CallA.withNeat Tryz.func35 c535 fun hn => ?_
  refine CallA.fin Tryz.func35 c535 (Nat.le_of_ble_eq_true rfl) fun σ hσ => ?_
  have hg := fun S => shfind_A sh s.c s.n s.day s.f s.t hl S
  simp (disch := first | omega | (simp only [lenT]; omega)) only [a535, sgR, evSt, ↓evPre, ↓evPreW, evPost, evPostW, evR, evU, seval]
  refine (hg _).then ?_
  cases h : shareF sh s.c s.n s.day s.f s.t with
  | none =>
    rw [opr_none h]
    simp (disch := first | omega | (simp only [lenT]; omega)) only [srO, noSr, evSt, ↓evPre, ↓evPreW, evPost, evPostW, evR, evU, seval]
    exact ⟨_, S, hn.fgt _, .imm rfl, Nat.le_refl _, rfl, rfl⟩
  | some x =>
    rw [opr_some h]
    simp (disch := first | omega | (simp only [lenT]; omega)) only [srO, srR, asS, evSt, ↓evPre, ↓evPreW, evPost, evPostW, evR, evU, seval]
    exact ⟨_, S, hn.fgt _, .imm rfl, Nat.le_refl _, rfl, rfl⟩
set_option maxHeartbeats 4000000 in
theorem ropr_A (sh : List Sr) (s : Sg) (hl : sh.length ≤ 1100000) (S : Store) : CallA Tryz.prog 36 [.sl 9 (sh.map srR), .agg (sgR s)] S fun r S' => r = .agg (sgR (oprF sh s)) ∧ S' = S := by
  refine CallA.withNeat Tryz.func36 c536 fun hn => ?_
  refine CallA.fin Tryz.func36 c536 (Nat.le_of_ble_eq_true rfl) fun σ hσ => ?_
  simp (disch := first | omega | (simp only [lenT]; omega)) only [a536, sgR, evSt, ↓evPre, ↓evPreW, evPost, evPostW, evR, evU, seval]
  refine loopA (ι := Nat) (fun k => [(0, .sl 9 (sh.map srR)), (3, .ptr S.length 0 0 0), (4, .ptr (S.length + 1) 0 0 0), (5, .int .i64 (k : Nat))]) (fun _ => S ++ [⟨0, some (.arr 50 7 [sgR s])⟩, ⟨0, some (.arr 50 7 [sgR zSg])⟩]) (fun k => k ≤ sh.length ∧ sh.find? (fun x => fitsF x s.c s.n s.day s.f s.t) = (sh.drop k).find? (fun x => fitsF x s.c s.n s.day s.f s.t)) (fun k => sh.length - k) 0 ⟨Nat.zero_le _, rfl⟩ ?_ rfl ?_
  · simp only [↓evPre, ↓evPreW, evPost, evPostW, evR, evU, seval]
  rintro k ⟨hk, hinv⟩
  cases hc : sh[k]? with
  | none =>
    have hlt : ¬ ((k : Int) < sh.length) := by rw [List.getElem?_eq_none_iff] at hc; omega
    have hf : shareF sh s.c s.n s.day s.f s.t = none := find_end hinv hc
    rw [opr_none hf]
    simp (disch := first | omega | (simp only [lenT]; omega)) only [sgR, zSg, dF hlt, evSt, ↓evPre, ↓evPreW, evPost, evPostW, evR, evU, seval]
    exact ⟨_, S, hn.fgt _, .imm rfl, Nat.le_refl _, rfl, rfl⟩
  | some x =>
    have hlt' := (List.getElem?_eq_some_iff.1 hc).1
    have hlt : (k : Int) < sh.length := by omega
    have hk1 : (k : Int) + 1 = ((k + 1 : Nat) : Int) := by omega
    have hh := fun S => fits_A x s.c s.n s.day s.f s.t S
    simp only [srR] at hh
    simp (disch := first | omega | (simp only [lenT]; omega)) only [sgR, zSg, srR, hc, dT hlt, evSt, ↓evPre, ↓evPreW, evPost, evPostW, evR, evU, seval]
    refine (hh _).then ?_
    cases hb : fitsF x s.c s.n s.day s.f s.t with
    | true =>
      have hf : shareF sh s.c s.n s.day s.f s.t = some x := find_hit hinv hc hb
      rw [opr_some hf]
      simp (disch := first | omega | (simp only [lenT]; omega)) only [sgR, zSg, srR, asS, hc, evSt, ↓evPre, ↓evPreW, evPost, evPostW, evR, evU, seval]
      exact ⟨_, S, hn.fgt _, .imm rfl, Nat.le_refl _, rfl, rfl⟩
    | false =>
      simp (disch := first | omega | (simp only [lenT]; omega)) only [sgR, zSg, wrap_i64, hk1, evSt, ↓evPre, ↓evPreW, evPost, evPostW, evR, evU, seval]
      exact ⟨k + 1, ⟨by omega, find_next hinv hc hb⟩, by omega, rfl⟩
theorem fnd_none {p : Pls} {l : List Fl} {sh : List Sr} {c : Txt} {n day : Int} {f t : Txt} (h : shareF sh c n day f t = none) : fndF p l sh c n day f t = segF p l c n day f t := by unfold fndF; rw [h]
theorem fnd_some {p : Pls} {l : List Fl} {sh : List Sr} {c : Txt} {n day : Int} {f t : Txt} {x : Sr} (h : shareF sh c n day f t = some x) : fndF p l sh c n day f t = if (segF p l x.oc x.oas day f t).2 = 0 then (asS (segF p l x.oc x.oas day f t).1 c n, 0) else (zSg, (segF p l x.oc x.oas day f t).2) := by unfold fndF; rw [h]
theorem fnd_A (p : Pls) (hp : POk p) (l : List Fl) (hl : FOk l) (sh : List Sr) (hs : sh.length ≤ 1100000) (c : Txt) (n day : Int) (f t : Txt) (S : Store) :
    CallA Tryz.prog 38 [plV p, .sl 6 (l.map flR), .sl 9 (sh.map srR), .str c, .int .i64 n, .int .i64 day, .str f, .str t] S fun r S' => r = .tup [.agg (sgR (fndF p l sh c n day f t).1), .int .i64 (fndF p l sh c n day f t).2] ∧ S' = S := by
  refine CallA.withNeat Tryz.func38 c538 fun hn => ?_
  refine CallA.fin Tryz.func38 c538 (Nat.le_of_ble_eq_true rfl) fun σ hσ => ?_
  have hg := fun S => shfind_A sh c n day f t hs S
  simp (disch := first | omega | (simp only [lenT]; omega)) only [a538, plV, evSt, ↓evPre, ↓evPreW, evPost, evPostW, evR, evU, seval]
  refine (hg _).then ?_
  cases h : shareF sh c n day f t with
  | none =>
    rw [fnd_none h]
    have hz := fun S => seg_A p hp l hl c n day f t S
    simp only [plV, sgR] at hz
    simp (disch := first | omega | (simp only [lenT]; omega)) only [srO, noSr, evSt, ↓evPre, ↓evPreW, evPost, evPostW, evR, evU, seval]
    refine (hz _).then ?_
    simp (disch := first | omega | (simp only [lenT]; omega)) only [evSt, ↓evPre, ↓evPreW, evPost, evPostW, evR, evU, seval]
    exact ⟨_, S, hn.fgt _, .imm rfl, Nat.le_refl _, rfl, rfl⟩
  | some x =>
    rw [fnd_some h]
    have hz := fun S => seg_A p hp l hl x.oc x.oas day f t S
    simp only [plV, sgR] at hz
    simp (disch := first | omega | (simp only [lenT]; omega)) only [srO, srR, evSt, ↓evPre, ↓evPreW, evPost, evPostW, evR, evU, seval]
    refine (hz _).then ?_
    by_cases h0 : (segF p l x.oc x.oas day f t).2 = 0
    · rw [if_pos h0]
      simp (disch := first | omega | (simp only [lenT]; omega)) only [dT h0, asS, sgR, evSt, ↓evPre, ↓evPreW, evPost, evPostW, evR, evU, seval]
      exact ⟨_, S, hn.fgt _, .imm rfl, Nat.le_refl _, rfl, rfl⟩
    · rw [if_neg h0]
      simp (disch := first | omega | (simp only [lenT]; omega)) only [dF h0, zSg, sgR, evSt, ↓evPre, ↓evPreW, evPost, evPostW, evR, evU, seval]
      exact ⟨_, S, hn.fgt _, .imm rfl, Nat.le_refl _, rfl, rfl⟩
theorem rfnd_A (p : Pls) (hp : POk p) (l : List Fl) (hl : FOk l) (sh : List Sr) (hs : sh.length ≤ 1100000) (c : Txt) (n day : Int) (f t : Txt) (S : Store) :
    CallA Tryz.prog 39 [plV p, .sl 6 (l.map flR), .sl 9 (sh.map srR), .str c, .int .i64 n, .int .i64 day, .str f, .str t] S fun r S' => r = .tup [.agg (sgR (fndF p l sh c n day f t).1), .int .i64 (fndF p l sh c n day f t).2] ∧ S' = S := by
  refine CallA.withNeat Tryz.func39 c539 fun hn => ?_
  refine CallA.fin Tryz.func39 c539 (Nat.le_of_ble_eq_true rfl) fun σ hσ => ?_
  have hg := fun S => ropr_A sh ⟨c, n, day, f, t, 0, 0⟩ hs S
  simp only [sgR] at hg
  have hz := fun c n S => rsegF_A p hp l hl c n day f t S
  simp only [plV, sgR] at hz
  simp (disch := first | omega | (simp only [lenT]; omega)) only [a539, plV, evSt, ↓evPre, ↓evPreW, evPost, evPostW, evR, evU, seval]
  refine (hg _).then ?_
  cases h : shareF sh c n day f t with
  | none =>
    rw [fnd_none h, opr_none (s := ⟨c, n, day, f, t, 0, 0⟩) h]
    simp (disch := first | omega | (simp only [lenT]; omega)) only [evSt, ↓evPre, ↓evPreW, evPost, evPostW, evR, evU, seval]
    refine (hz _ _ _).then ?_
    by_cases h0 : (segF p l c n day f t).2 = 0
    · obtain ⟨y, h2, h3, h4, h5, h6, h7, h8⟩ := segF_ok h0
      have he : segF p l c n day f t = (asS (segF p l c n day f t).1 c n, 0) := by
        refine Prod.ext ?_ h0
        generalize (segF p l c n day f t).1 = q at h6 h7
        obtain ⟨a1, a2, a3, a4, a5, a6, a7⟩ := q
        simp only at h6 h7
        subst h6 h7
        rfl
      simp (disch := first | omega | (simp only [lenT]; omega)) only [dT h0, evSt, ↓evPre, ↓evPreW, evPost, evPostW, evR, evU, seval]
      exact ⟨_, S, hn.fgt _, .imm rfl, Nat.le_refl _, by rw [he]; rfl, rfl⟩
    · have he : segF p l c n day f t = (zSg, (segF p l c n day f t).2) := Prod.ext (segF_bad h0) rfl
      simp (disch := first | omega | (simp only [lenT]; omega)) only [dF h0, evSt, ↓evPre, ↓evPreW, evPost, evPostW, evR, evU, seval]
      exact ⟨_, S, hn.fgt _, .imm rfl, Nat.le_refl _, by rw [he]; rfl, rfl⟩
  | some x =>
    rw [fnd_some h, opr_some (s := ⟨c, n, day, f, t, 0, 0⟩) h]
    simp (disch := first | omega | (simp only [lenT]; omega)) only [asS, evSt, ↓evPre, ↓evPreW, evPost, evPostW, evR, evU, seval]
    refine (hz _ _ _).then ?_
    by_cases h0 : (segF p l x.oc x.oas day f t).2 = 0
    · rw [if_pos h0]
      simp (disch := first | omega | (simp only [lenT]; omega)) only [dT h0, asS, sgR, evSt, ↓evPre, ↓evPreW, evPost, evPostW, evR, evU, seval]
      exact ⟨_, S, hn.fgt _, .imm rfl, Nat.le_refl _, rfl, rfl⟩
    · rw [if_neg h0]
      simp (disch := first | omega | (simp only [lenT]; omega)) only [dF h0, zSg, sgR, evSt, ↓evPre, ↓evPreW, evPost, evPostW, evR, evU, seval]
      exact ⟨_, S, hn.fgt _, .imm rfl, Nat.le_refl _, rfl, rfl⟩
end Go.Proofs.YtiihkfjbllpiaaaGreatDoor
