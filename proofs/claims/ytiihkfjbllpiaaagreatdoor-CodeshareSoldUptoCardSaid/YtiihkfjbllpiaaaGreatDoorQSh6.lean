/- Shares: what is right and small; the chapter's examples. The laws of shares. -/
import Derived.Test.YtiihkfjbllpiaaaGreatDoorQSh4
namespace Go.Proofs.YtiihkfjbllpiaaaGreatDoor
open Go Go.AL
set_option linter.unusedSectionVars false
variable [Go.AL.Mode] [Go.AL.LooseM]
set_option linter.unusedSimpArgs false
set_option linter.unusedVariables false

def smF (p : Pls) : Bool := decide (p.1.length ≤ 40) && (decide (p.2.length ≤ 60) && p.1.all fun a => decide (a.sh.length ≤ 40))
theorem alls_at {α : Type} {l : List α} {q : α → Bool} {k : Nat} {c : α} (hc : l[k]? = some c) : (l.drop k).all q = (q c && (l.drop (k + 1)).all q) := by rw [drop_at hc, List.all_cons]
theorem small_S (p : Pls) (hp : PSm p) (S : Store) : CallA Tryz.prog 71 [plV p] S fun r S' => r = .bool (smF p) ∧ S' = S := by
  refine CallA.keep Tryz.func71 c571 (Nat.le_of_ble_eq_true rfl) fun σ hσ => ?_
  obtain ⟨hp1, hp2, hp3⟩ := hp
  unfold smF
  by_cases h1 : p.1.length ≤ 40
  case neg =>
    have h1' : decide ((40 : Int) < p.1.length) = true := decide_eq_true (by omega)
    simp (disch := first | omega | (simp only [lenT]; omega)) only [a571, plV, h1', dF h1, Bool.false_and, evSt, ↓evPre, ↓evPreW, evPost, evPostW, evR, evU, seval]
  have h1' : decide ((40 : Int) < p.1.length) = false := decide_eq_false (by omega)
  by_cases h2 : p.2.length ≤ 60
  case neg =>
    have h2' : decide ((60 : Int) < p.2.length) = true := decide_eq_true (by omega)
    simp (disch := first | omega | (simp only [lenT]; omega)) only [a571, plV, h1', h2', dT h1, dF h2, Bool.true_and, Bool.false_and, evSt, ↓evPre, ↓evPreW, evPost, evPostW, evR, evU, seval]
  have h2' : decide ((60 : Int) < p.2.length) = false := decide_eq_false (by omega)
  rw [dT h1, dT h2, Bool.true_and, Bool.true_and]
  simp (disch := first | omega | (simp only [lenT]; omega)) only [a571, plV, h1', h2', evSt, ↓evPre, ↓evPreW, evPost, evPostW, evR, evU, seval]
  refine loopA (ι := Nat) (fun k => [(1, .cptr [.sl 5 (p.1.map aptR), .sl 3 (p.2.map dstR)]), (3, .int .i64 (k : Nat))]) (fun _ => S) (fun k => k ≤ p.1.length ∧ (p.1.all fun a => decide (a.sh.length ≤ 40)) = (p.1.drop k).all fun a => decide (a.sh.length ≤ 40)) (fun k => p.1.length - k) 0 ⟨Nat.zero_le _, rfl⟩ ?_ rfl ?_
  · simp only [↓evPre, ↓evPreW, evPost, evPostW, evR, evU, seval]
    try rfl
  rintro k ⟨hk, he⟩
  cases hc : p.1[k]? with
  | none =>
    have hge := List.getElem?_eq_none_iff.1 hc
    have hlt : ¬ ((k : Int) < p.1.length) := by omega
    rw [List.drop_eq_nil_of_le hge] at he
    rw [he]
    simp (disch := first | omega | (simp only [lenT]; omega)) only [dF hlt, List.all_nil, evSt, ↓evPre, ↓evPreW, evPost, evPostW, evR, evU, seval]
  | some a =>
    have hlt' := (List.getElem?_eq_some_iff.1 hc).1
    have hlt : ((k : Int) < p.1.length) := by omega
    have hk1 : (k : Int) + 1 = ((k + 1 : Nat) : Int) := by omega
    rw [alls_at hc] at he
    by_cases h3 : a.sh.length ≤ 40
    · have h3' : decide ((40 : Int) < a.sh.length) = false := decide_eq_false (by omega)
      rw [dT h3, Bool.true_and] at he
      simp (disch := first | omega | (simp only [lenT]; omega)) only [dT hlt, hc, h3', aptR, wrap_i64, hk1, evSt, ↓evPre, ↓evPreW, evPost, evPostW, evR, evU, seval]
      exact ⟨k + 1, ⟨by omega, he⟩, by omega, rfl⟩
    · have h3' : decide ((40 : Int) < a.sh.length) = true := decide_eq_true (by omega)
      rw [dF h3, Bool.false_and] at he
      rw [he]
      simp (disch := first | omega | (simp only [lenT]; omega)) only [dT hlt, hc, h3', aptR, evSt, ↓evPre, ↓evPreW, evPost, evPostW, evR, evU, seval]
theorem small_ok {p : Pls} (h : smF p = true) : POk p := by
  unfold smF at h
  rw [Bool.and_eq_true, Bool.and_eq_true, decide_eq_true_eq, decide_eq_true_eq, List.all_eq_true] at h
  exact ⟨by omega, fun a ha => by have := h.2.2 a ha; rw [decide_eq_true_eq] at this; omega⟩
/-- Arguments of a bulk that a machine holds. -/
structure ASm (p : Pls) (l : List Fl) (sh : List Sr) : Prop where
  h1 : PSm p
  h2 : l.length ≤ 1100000
  h3 : ∀ x ∈ l, x.legs.length ≤ 1100000
  h4 : sh.length ≤ 1100000
structure Rt (p : Pls) (l : List Fl) (sh : List Sr) : Prop where
  h1 : POk p
  h2 : FOk l
  h3 : sh.length ≤ 12
  h4 : TtOk p l
theorem right_A (p : Pls) (l : List Fl) (sh : List Sr) (ha : ASm p l sh) (S : Store) : CallA Tryz.prog 28 [plV p, .sl 6 (l.map flR), .sl 9 (sh.map srR)] S fun r S' => ∃ b, r = .bool b ∧ (b = true → Rt p l sh) ∧ S' = S := by
  refine CallA.withNeat Tryz.func28 c528 fun hn => ?_
  refine CallA.fin Tryz.func28 c528 (Nat.le_of_ble_eq_true rfl) fun σ hσ => ?_
  obtain ⟨hp, hl, hx, hs⟩ := ha
  have hsm := fun S => small_S p hp S
  have hpl := fun S => rplaces_A p hp S
  simp only [plV] at hsm hpl
  have no : ∀ {b : Bool}, b = false → (b = true → Rt p l sh) := fun h g => by rw [h] at g; cases g
  simp (disch := first | omega | (simp only [lenT]; omega)) only [a528, plV, evSt, ↓evPre, ↓evPreW, evPost, evPostW, evR, evU, seval]
  refine (hsm _).then ?_
  cases h1 : smF p with
  | false =>
    simp (disch := first | omega | (simp only [lenT]; omega)) only [evSt, ↓evPre, ↓evPreW, evPost, evPostW, evR, evU, seval]
    exact ⟨_, S, hn.self, .imm rfl, Nat.le_refl _, false, rfl, no rfl, rfl⟩
  | true =>
    by_cases h2 : 12 < l.length
    · have h2' : decide ((12 : Int) < l.length) = true := decide_eq_true (by omega)
      simp (disch := first | omega | (simp only [lenT]; omega)) only [h2', evSt, ↓evPre, ↓evPreW, evPost, evPostW, evR, evU, seval]
      exact ⟨_, S, hn.self, .imm rfl, Nat.le_refl _, false, rfl, no rfl, rfl⟩
    have h2' : decide ((12 : Int) < l.length) = false := decide_eq_false (by omega)
    by_cases h3 : 12 < sh.length
    · have h3' : decide ((12 : Int) < sh.length) = true := decide_eq_true (by omega)
      simp (disch := first | omega | (simp only [lenT]; omega)) only [h2', h3', evSt, ↓evPre, ↓evPreW, evPost, evPostW, evR, evU, seval]
      exact ⟨_, S, hn.self, .imm rfl, Nat.le_refl _, false, rfl, no rfl, rfl⟩
    have h3' : decide ((12 : Int) < sh.length) = false := decide_eq_false (by omega)
    simp (disch := first | omega | (simp only [lenT]; omega)) only [h2', h3', evSt, ↓evPre, ↓evPreW, evPost, evPostW, evR, evU, seval]
    refine (hpl _).mono ?_
    rintro _ S2 ⟨fs, rfl, hz, hS2⟩
    rw [hS2]
    by_cases h4 : fs = []
    · have h4' : decide ((0 : Int) < fs.length) = false := decide_eq_false (by rw [h4]; simp)
      have hpk := small_ok h1
      have htt := fun S => rtt0_A p hpk l (by omega) hx S
      simp only [plV] at htt
      simp (disch := first | omega | (simp only [lenT]; omega)) only [h4', evSt, ↓evPre, ↓evPreW, evPost, evPostW, evR, evU, seval]
      refine (htt _).then ?_
      simp (disch := first | omega | (simp only [lenT]; omega)) only [evSt, ↓evPre, ↓evPreW, evPost, evPostW, evR, evU, seval]
      refine ⟨_, S, hn.self, .imm rfl, Nat.le_refl _, _, rfl, fun hb => ?_, rfl⟩
      have ht : ttF p l rT = [] := List.eq_nil_of_length_eq_zero (by have := of_decide_eq_true hb; omega)
      have htk := ttErrs_ok ht
      exact ⟨hpk, ⟨by omega, fun x hx => by have := (htk.fl x hx).few; omega⟩, by omega, htk⟩
    · have h4' : decide ((0 : Int) < fs.length) = true := decide_eq_true (by have := List.length_pos_iff.2 h4; omega)
      simp (disch := first | omega | (simp only [lenT]; omega)) only [h4', evSt, ↓evPre, ↓evPreW, evPost, evPostW, evR, evU, seval]
      exact ⟨_, S, hn.self, .imm rfl, Nat.le_refl _, false, rfl, no rfl, rfl⟩

/-! ### The examples -/
def tLHR : Txt := [76, 72, 82]
def tJFK : Txt := [74, 70, 75]
def tBA : Txt := [66, 65]
def tAF : Txt := [65, 70]
def p0 : Pls := ([⟨tLHR, [76, 79, 78], [71, 66], 0, []⟩, ⟨tJFK, [78, 89, 67], [85, 83], -300, []⟩], [])
def l0 : List Fl := [⟨tBA, 2, ⟨9497, 9506, 127⟩, [⟨tLHR, tJFK, 600, 780, [55, 55, 55]⟩]⟩]
def s0 : List Sr := [⟨tAF, 900, ⟨9497, 9506, 1⟩, tBA, 2, tLHR, tJFK⟩]
def s1 : List Sr := [⟨tAF, 900, ⟨9497, 9515, 1⟩, tBA, 2, tLHR, tJFK⟩]
theorem places0_A (S : Store) : CallA Tryz.prog 72 [] S fun r S' => r = plV p0 ∧ S' = S := by
  have h : CallA Tryz.prog 72 [] S fun r S' => r = .agg [.sl 5 [[.str tLHR, .str [76, 79, 78], .str [71, 66], .int .i64 0, .nilSl], [.str tJFK, .str [78, 89, 67], .str [85, 83], .int .i64 (-300), .nilSl]], .nilSl] ∧ S' = S := by
    refine CallA.withNeat Tryz.func72 c572 fun hn => ?_
    refine CallA.fin Tryz.func72 c572 (Nat.le_of_ble_eq_true rfl) fun σ hσ => ?_
    simp (disch := first | omega | (simp only [lenT]; omega)) only [a572, evSt, ↓evPre, ↓evPreW, evPost, evPostW, evR, evU, seval]
    exact ⟨_, S, hn.fgt _, .imm rfl, Nat.le_refl _, rfl, rfl⟩
  exact h.wkR fun r S' ⟨hr, hS⟩ => ⟨plV p0, by rw [hr]; exact Wk.aggL ⟨Wk.slL ⟨⟨.refl _, .refl _, .refl _, .refl _, .nil 2, trivial⟩, ⟨.refl _, .refl _, .refl _, .refl _, .nil 2, trivial⟩, trivial⟩, .nil 3, trivial⟩, rfl, hS⟩
theorem flights0_A (S : Store) : CallA Tryz.prog 73 [] S fun r S' => r = .sl 6 (l0.map flR) ∧ S' = S := by
  refine CallA.keep Tryz.func73 c573 (Nat.le_of_ble_eq_true rfl) fun σ hσ => ?_
  simp (disch := first | omega | (simp only [lenT]; omega)) only [a573, evSt, ↓evPre, ↓evPreW, evPost, evPostW, evR, evU, seval]
  try rfl
theorem shares0_O (S : Store) : CallA Tryz.prog 74 [] S fun r S' => r = .msl S.length 0 0 1 ∧ S' = S ++ [⟨0, some (.arr 108 9 (s0.map srR))⟩] := by
  refine CallA.keep Tryz.func74 c574 (Nat.le_of_ble_eq_true rfl) fun σ hσ => ?_
  simp (disch := first | omega | (simp only [lenT]; omega)) only [a574, evSt, ↓evPre, ↓evPreW, evPost, evPostW, evR, evU, seval]
  try rfl
theorem shares0_A (S : Store) : CallA Tryz.prog 74 [] S fun r S' => r = .sl 9 (s0.map srR) ∧ S' = S := by
  refine CallA.withNeat Tryz.func74 c574 fun hn => ?_
  refine CallA.fin Tryz.func74 c574 (Nat.le_of_ble_eq_true rfl) fun σ hσ => ?_
  simp (disch := first | omega | (simp only [lenT]; omega)) only [a574, evSt, ↓evPre, ↓evPreW, evPost, evPostW, evR, evU, seval]
  exact ⟨_, S, hn.fgt _, .sl (t := 108) (rows := s0.map srR) (Nat.le_refl _) (by rw [ob_app0, ob_head]; rfl) rfl (by simp [s0, srR, V.allImm, V.isImm]), Nat.le_refl _, rfl, rfl⟩

theorem ex1 : fndF p0 l0 s0 tAF 900 9501 tLHR tJFK = (⟨tAF, 900, 9501, tLHR, tJFK, 13682040, 13682520⟩, 0) := by decide +kernel
theorem ex2 : (fndF p0 l0 s0 tAF 900 9502 tLHR tJFK).2 = 7 := by decide +kernel
theorem ex3 : covF p0 l0 s0 ⟨tAF, 900, 9501, tLHR, tJFK, 13682040, 13682520⟩ = ([⟨tBA, 2, 9501, tLHR⟩], 0) := by decide +kernel
theorem ex4 : (soldF p0 l0 s0 9501).length = 2 := by decide +kernel
theorem ex5 : chkF l0 s0 = [] := by decide +kernel
theorem ex6 : chkF l0 s1 = [⟨7, txSh ++ [48]⟩] := by decide +kernel
theorem p0_ok : POk p0 := small_ok (by decide)
theorem l0_ok : FOk l0 := ⟨by decide, fun x hx => by simp only [l0, List.mem_singleton] at hx; subst hx; decide⟩
set_option maxRecDepth 20000 in
theorem awakeS_A (S : Store) : CallA Tryz.prog 29 [] S fun r S' => r = .bool true ∧ S' = S := by
  refine CallA.withNeat Tryz.func29 c529 fun hn => ?_
  refine CallA.fin Tryz.func29 c529 (Nat.le_of_ble_eq_true rfl) fun σ hσ => ?_
  have hf1 := fun S => fnd_A p0 p0_ok l0 l0_ok s0 (by decide) tAF 900 9501 tLHR tJFK S
  have hf2 := fun S => fnd_A p0 p0_ok l0 l0_ok s0 (by decide) tAF 900 9502 tLHR tJFK S
  have hcv := fun S => cover_A p0 p0_ok l0 l0_ok s0 (by decide) ⟨tAF, 900, 9501, tLHR, tJFK, 13682040, 13682520⟩ S
  have hsd := fun S => sold_A p0 p0_ok l0 l0_ok s0 (by decide) 9501 S
  have hk1 := fun S => checkS_A p0 l0 l0_ok s0 (by decide) S
  have hk2 := fun S => checkS_A p0 l0 l0_ok s1 (by decide) S
  rw [ex1] at hf1
  rw [ex3] at hcv
  rw [ex5] at hk1
  rw [ex6] at hk2
  simp only [ex2] at hf2
  have hls : ((soldF p0 l0 s0 9501).map sgR).length = 2 := by rw [List.length_map, ex4]
  generalize (fndF p0 l0 s0 tAF 900 9502 tLHR tJFK).1 = g2 at hf2
  simp only [tAF, tLHR, tJFK, sgR] at hf1 hf2 hcv
  simp only [tLHR, tBA, idR, List.map_cons, List.map_nil] at hcv
  simp (disch := first | omega | (simp only [lenT]; omega)) only [a529, evSt, ↓evPre, ↓evPreW, evPost, evPostW, evR, evU, seval]
  refine (places0_A _).then ?_
  simp (disch := first | omega | (simp only [lenT]; omega)) only [evSt, ↓evPre, ↓evPreW, evPost, evPostW, evR, evU, seval]
  refine (flights0_A _).then ?_
  simp (disch := first | omega | (simp only [lenT]; omega)) only [evSt, ↓evPre, ↓evPreW, evPost, evPostW, evR, evU, seval]
  refine (shares0_A _).then ?_
  simp (disch := first | omega | (simp only [lenT]; omega)) only [evSt, ↓evPre, ↓evPreW, evPost, evPostW, evR, evU, seval]
  refine (hf1 _).then ?_
  simp (disch := first | omega | (simp only [lenT]; omega)) only [evSt, ↓evPre, ↓evPreW, evPost, evPostW, evR, evU, seval]
  refine (places0_A _).then ?_
  simp (disch := first | omega | (simp only [lenT]; omega)) only [evSt, ↓evPre, ↓evPreW, evPost, evPostW, evR, evU, seval]
  refine (flights0_A _).then ?_
  simp (disch := first | omega | (simp only [lenT]; omega)) only [evSt, ↓evPre, ↓evPreW, evPost, evPostW, evR, evU, seval]
  refine (shares0_A _).then ?_
  simp (disch := first | omega | (simp only [lenT]; omega)) only [evSt, ↓evPre, ↓evPreW, evPost, evPostW, evR, evU, seval]
  refine (hf2 _).then ?_
  simp (disch := first | omega | (simp only [lenT]; omega)) only [evSt, ↓evPre, ↓evPreW, evPost, evPostW, evR, evU, seval]
  refine exD.intro (places0_A _) ?_
  simp (disch := first | omega | (simp only [lenT]; omega)) only [evSt, ↓evPre, ↓evPreW, evPost, evPostW, evR, evU, seval]
  refine exD.intro (flights0_A _) ?_
  simp (disch := first | omega | (simp only [lenT]; omega)) only [evSt, ↓evPre, ↓evPreW, evPost, evPostW, evR, evU, seval]
  refine exD.intro (shares0_A _) ?_
  simp (disch := first | omega | (simp only [lenT]; omega)) only [evSt, ↓evPre, ↓evPreW, evPost, evPostW, evR, evU, seval]
  refine (hcv _).then ?_
  simp (disch := first | omega | (simp only [lenT]; omega)) only [evSt, ↓evPre, ↓evPreW, evPost, evPostW, evR, evU, seval]
  refine (shares0_O _).mono ?_
  rintro _ _ ⟨rfl, rfl⟩
  simp (disch := first | omega | (simp only [lenT]; omega)) only [s0, srR, List.map_cons, List.map_nil, evSt, ↓evPre, ↓evPreW, evPost, evPostW, evR, evU, seval]
  refine (places0_A _).then ?_
  simp (disch := first | omega | (simp only [lenT]; omega)) only [evSt, ↓evPre, ↓evPreW, evPost, evPostW, evR, evU, seval]
  refine (flights0_A _).then ?_
  simp (disch := first | omega | (simp only [lenT]; omega)) only [evSt, ↓evPre, ↓evPreW, evPost, evPostW, evR, evU, seval]
  refine (shares0_A _).then ?_
  simp (disch := first | omega | (simp only [lenT]; omega)) only [evSt, ↓evPre, ↓evPreW, evPost, evPostW, evR, evU, seval]
  refine (hsd _).then ?_
  have hls2 : (((soldF p0 l0 s0 9501).length : Nat) : Int) = 2 := by rw [ex4]; rfl
  simp (disch := first | omega | (simp only [lenT]; omega)) only [hls2, evSt, ↓evPre, ↓evPreW, evPost, evPostW, evR, evU, seval]
  refine (places0_A _).then ?_
  simp (disch := first | omega | (simp only [lenT]; omega)) only [evSt, ↓evPre, ↓evPreW, evPost, evPostW, evR, evU, seval]
  refine (flights0_A _).then ?_
  simp (disch := first | omega | (simp only [lenT]; omega)) only [evSt, ↓evPre, ↓evPreW, evPost, evPostW, evR, evU, seval]
  refine (shares0_A _).then ?_
  simp (disch := first | omega | (simp only [lenT]; omega)) only [evSt, ↓evPre, ↓evPreW, evPost, evPostW, evR, evU, seval]
  refine (hk1 _).then ?_
  simp (disch := first | omega | (simp only [lenT]; omega)) only [List.map_nil, List.length_nil, evSt, ↓evPre, ↓evPreW, evPost, evPostW, evR, evU, seval]
  refine (places0_A _).then ?_
  simp (disch := first | omega | (simp only [lenT]; omega)) only [evSt, ↓evPre, ↓evPreW, evPost, evPostW, evR, evU, seval]
  refine (flights0_A _).then ?_
  simp (disch := first | omega | (simp only [lenT]; omega)) only [evSt, ↓evPre, ↓evPreW, evPost, evPostW, evR, evU, seval]
  refine CallA.then2 (CallA.killedL hn (args1 := [plV p0, .sl 6 (l0.map flR), .sl 9 (s1.map srR)]) (hk2 _) ⟨.imm rfl, .imm rfl, .dead (t := 108) (dead_kill (by omega)) (by rw [ob_app, ob_cons, ob_cons, ob_head]; rfl) rfl (by simp [s1, srR, V.allImm, V.isImm]), trivial⟩) ?_
  have hsm := fun S => sameFt_A [⟨7, txSh ++ [48]⟩] [⟨7, txSh ++ [48]⟩] (by decide) S
  simp only [List.map_cons, List.map_nil, ftR, txSh, List.cons_append, List.nil_append, decide_true] at hsm
  simp (disch := first | omega | (simp only [lenT]; omega)) only [kill, List.map_cons, List.map_nil, ftR, txSh, List.cons_append, List.nil_append, evSt, ↓evPre, ↓evPreW, evPost, evPostW, evR, evU, seval]
  refine (hsm _).then ?_
  simp (disch := first | omega | (simp only [lenT]; omega)) only [evSt, ↓evPre, ↓evPreW, evPost, evPostW, evR, evU, seval]
  exact ⟨_, S, hn.fgt _, .imm rfl, Nat.le_refl _, rfl, rfl⟩
theorem law_checks (p : Pls) (l : List Fl) (sh : List Sr) (ha : ASm p l sh) (S : Store) : CallA Tryz.prog 7 [plV p, .sl 6 (l.map flR), .sl 9 (sh.map srR)] S fun r S' => r = .bool true ∧ S' = S := by
  refine CallA.keep Tryz.func7 c507 (Nat.le_of_ble_eq_true rfl) fun σ hσ => ?_
  have hr := fun S => right_A p l sh ha S
  simp only [plV] at hr
  simp (disch := first | omega | (simp only [lenT]; omega)) only [a507, plV, evSt, ↓evPre, ↓evPreW, evPost, evPostW, evR, evU, seval]
  refine (hr _).mono ?_
  rintro _ S2 ⟨b, rfl, hb, hS2⟩
  rw [hS2]
  cases b with
  | false =>
    simp (disch := first | omega | (simp only [lenT]; omega)) only [evSt, ↓evPre, ↓evPreW, evPost, evPostW, evR, evU, seval]
    refine (awakeS_A _).then ?_
    simp (disch := first | omega | (simp only [lenT]; omega)) only [evSt, ↓evPre, ↓evPreW, evPost, evPostW, evR, evU, seval]
  | true =>
    have hR := hb rfl
    have h1 := fun S => checkS_A p l hR.h2 sh (by have := hR.h3; omega) S
    have h2 := fun S => rcheckS_A p l hR.h2 sh (by have := hR.h3; omega) S
    have hlen : (chkF l sh).length ≤ 100000000 := by have := chkErrs_len l sh sh.length; have := hR.h3; unfold chkF; omega
    have h3 := fun S => sameFt_A (chkF l sh) (chkF l sh) hlen S
    rw [dT rfl] at h3
    simp only [plV] at h1 h2
    simp (disch := first | omega | (simp only [lenT]; omega)) only [evSt, ↓evPre, ↓evPreW, evPost, evPostW, evR, evU, seval]
    refine exD.intro (h1 _) ?_
    simp (disch := first | omega | (simp only [lenT]; omega)) only [evSt, ↓evPre, ↓evPreW, evPost, evPostW, evR, evU, seval]
    refine (h2 _).then ?_
    simp (disch := first | omega | (simp only [lenT]; omega)) only [evSt, ↓evPre, ↓evPreW, evPost, evPostW, evR, evU, seval]
    refine (h3 _).then ?_
    simp (disch := first | omega | (simp only [lenT]; omega)) only [evSt, ↓evPre, ↓evPreW, evPost, evPostW, evR, evU, seval]
    refine (awakeS_A _).then ?_
    simp (disch := first | omega | (simp only [lenT]; omega)) only [evSt, ↓evPre, ↓evPreW, evPost, evPostW, evR, evU, seval]
theorem law_sold (p : Pls) (l : List Fl) (sh : List Sr) (day : Int) (ha : ASm p l sh) (S : Store) : CallA Tryz.prog 11 [plV p, .sl 6 (l.map flR), .sl 9 (sh.map srR), .int .i64 day] S fun r S' => r = .bool true ∧ S' = S := by
  refine CallA.keep Tryz.func11 c511 (Nat.le_of_ble_eq_true rfl) fun σ hσ => ?_
  have hr := fun S => right_A p l sh ha S
  simp only [plV] at hr
  simp (disch := first | omega | (simp only [lenT]; omega)) only [a511, plV, evSt, ↓evPre, ↓evPreW, evPost, evPostW, evR, evU, seval]
  refine (hr _).mono ?_
  rintro _ S2 ⟨b, rfl, hb, hS2⟩
  rw [hS2]
  cases b with
  | false =>
    simp (disch := first | omega | (simp only [lenT]; omega)) only [evSt, ↓evPre, ↓evPreW, evPost, evPostW, evR, evU, seval]
    refine (awakeS_A _).then ?_
    simp (disch := first | omega | (simp only [lenT]; omega)) only [evSt, ↓evPre, ↓evPreW, evPost, evPostW, evR, evU, seval]
  | true =>
    have hR := hb rfl
    have h1 := fun S => sold_A p hR.h1 l hR.h2 sh (by have := hR.h3; omega) day S
    have h2 := fun S => rsold_A p hR.h1 l hR.h2 sh (by have := hR.h3; omega) day S
    have hlen : (soldF p l sh day).length ≤ 100000000 := by have := sold2_len (p := p) (sh := sh) (day := day) hR.h2 sh.length; have := hR.h3; have := hR.h2.h1; rw [sold_eq]; omega
    have h3 := fun S => sameSg_A (soldF p l sh day) (soldF p l sh day) hlen S
    rw [dT rfl] at h3
    simp only [plV] at h1 h2
    simp (disch := first | omega | (simp only [lenT]; omega)) only [evSt, ↓evPre, ↓evPreW, evPost, evPostW, evR, evU, seval]
    refine exD.intro (h1 _) ?_
    simp (disch := first | omega | (simp only [lenT]; omega)) only [evSt, ↓evPre, ↓evPreW, evPost, evPostW, evR, evU, seval]
    refine (h2 _).then ?_
    simp (disch := first | omega | (simp only [lenT]; omega)) only [evSt, ↓evPre, ↓evPreW, evPost, evPostW, evR, evU, seval]
    refine (h3 _).then ?_
    simp (disch := first | omega | (simp only [lenT]; omega)) only [evSt, ↓evPre, ↓evPreW, evPost, evPostW, evR, evU, seval]
    refine (awakeS_A _).then ?_
    simp (disch := first | omega | (simp only [lenT]; omega)) only [evSt, ↓evPre, ↓evPreW, evPost, evPostW, evR, evU, seval]
theorem cut_len {f t : Txt} : ∀ {L m : List Dt}, cutF f t L = some m → m.length ≤ L.length
  | [], m, h => by cases h
  | a :: L, m, h => by
    rw [cutF] at h
    split at h
    · split at h
      · cases h
        simp only [List.length_take]
        omega
      · cases h
    · have := cut_len h
      simp only [List.length_cons]
      omega
theorem path_len (p : Pls) (x : Fl) (s : Sg) : (pathF p x s).1.length ≤ x.legs.length := by
  unfold pathF
  split
  · simp
  · split
    · simp
    · split
      · simp
      · rename_i m hm
        have := cut_len hm
        have hl : (legsF p x s.day).length = x.legs.length := by simp [legsF]
        split
        · simp only [List.length_map]; omega
        · simp
theorem cov_len {p : Pls} {l : List Fl} (hl : FOk l) (sh : List Sr) (s : Sg) : (covF p l sh s).1.length ≤ 300 := by
  unfold covF
  split
  · simp
  · rename_i x hx
    have := path_len p x (oprF sh s)
    have := hl.h2 x (onL_mem hx)
    omega
theorem law_covers (p : Pls) (l : List Fl) (sh : List Sr) (s : Sg) (ha : ASm p l sh) (S : Store) : CallA Tryz.prog 8 [plV p, .sl 6 (l.map flR), .sl 9 (sh.map srR), .agg (sgR s)] S fun r S' => r = .bool true ∧ S' = S := by
  refine CallA.keep Tryz.func8 c508 (Nat.le_of_ble_eq_true rfl) fun σ hσ => ?_
  have hr := fun S => right_A p l sh ha S
  simp only [plV] at hr
  simp (disch := first | omega | (simp only [lenT]; omega)) only [a508, plV, sgR, evSt, ↓evPre, ↓evPreW, evPost, evPostW, evR, evU, seval]
  refine (hr _).mono ?_
  rintro _ S2 ⟨b, rfl, hb, hS2⟩
  rw [hS2]
  cases b with
  | false =>
    simp (disch := first | omega | (simp only [lenT]; omega)) only [evSt, ↓evPre, ↓evPreW, evPost, evPostW, evR, evU, seval]
    refine (awakeS_A _).then ?_
    simp (disch := first | omega | (simp only [lenT]; omega)) only [evSt, ↓evPre, ↓evPreW, evPost, evPostW, evR, evU, seval]
  | true =>
    have hR := hb rfl
    have hs := ha.h4
    have h1 := fun S => cover_A p hR.h1 l hR.h2 sh hs s S
    have h2 := fun S => rcover_A p hR.h1 l hR.h2 sh hs s S
    have h4 := fun S => opr_A sh s hs S
    have h5 := fun S => ropr_A sh s hs S
    have hlen : (covF p l sh s).1.length ≤ 100000000 := by have := cov_len (p := p) hR.h2 sh s; omega
    have h3 := fun S => sameId_A (covF p l sh s).1 (covF p l sh s).1 hlen S
    rw [dT rfl] at h3
    simp only [plV, sgR] at h1 h2 h4 h5
    simp (disch := first | omega | (simp only [lenT]; omega)) only [evSt, ↓evPre, ↓evPreW, evPost, evPostW, evR, evU, seval]
    refine (h1 _).then ?_
    simp (disch := first | omega | (simp only [lenT]; omega)) only [evSt, ↓evPre, ↓evPreW, evPost, evPostW, evR, evU, seval]
    refine (h2 _).then ?_
    simp (disch := first | omega | (simp only [lenT]; omega)) only [evSt, ↓evPre, ↓evPreW, evPost, evPostW, evR, evU, seval]
    refine exD.intro (h4 _) ?_
    simp (disch := first | omega | (simp only [lenT]; omega)) only [evSt, ↓evPre, ↓evPreW, evPost, evPostW, evR, evU, seval]
    refine (h5 _).then ?_
    simp (disch := first | omega | (simp only [lenT]; omega)) only [eq_self, decide_true, Bool.and_self, evSt, ↓evPre, ↓evPreW, evPost, evPostW, evR, evU, seval]
    refine (h3 _).then ?_
    simp (disch := first | omega | (simp only [lenT]; omega)) only [eq_self, decide_true, evSt, ↓evPre, ↓evPreW, evPost, evPostW, evR, evU, seval]
    refine (awakeS_A _).then ?_
    simp (disch := first | omega | (simp only [lenT]; omega)) only [evSt, ↓evPre, ↓evPreW, evPost, evPostW, evR, evU, seval]
theorem law_finds (p : Pls) (l : List Fl) (sh : List Sr) (q : Sg) (ha : ASm p l sh) (S : Store) : CallA Tryz.prog 9 [plV p, .sl 6 (l.map flR), .sl 9 (sh.map srR), .agg (sgR q)] S fun r S' => r = .bool true ∧ S' = S := by
  refine CallA.withNeat Tryz.func9 c509 fun hn => ?_
  refine CallA.fin Tryz.func9 c509 (Nat.le_of_ble_eq_true rfl) fun σ hσ => ?_
  have hr := fun S => right_A p l sh ha S
  simp only [plV] at hr
  simp (disch := first | omega | (simp only [lenT]; omega)) only [a509, plV, sgR, evSt, ↓evPre, ↓evPreW, evPost, evPostW, evR, evU, seval]
  refine (hr _).mono ?_
  rintro _ S2 ⟨b, rfl, hb, hS2⟩
  rw [hS2]
  cases b with
  | false =>
    simp (disch := first | omega | (simp only [lenT]; omega)) only [evSt, ↓evPre, ↓evPreW, evPost, evPostW, evR, evU, seval]
    refine (awakeS_A _).then ?_
    simp (disch := first | omega | (simp only [lenT]; omega)) only [evSt, ↓evPre, ↓evPreW, evPost, evPostW, evR, evU, seval]
    exact ⟨_, S, hn.self, .imm rfl, Nat.le_refl _, rfl, rfl⟩
  | true =>
    have hR := hb rfl
    have hs := ha.h4
    have h1 := fun S => fnd_A p hR.h1 l hR.h2 sh hs q.c q.n q.day q.f q.t S
    have h2 := fun S => rfnd_A p hR.h1 l hR.h2 sh hs q.c q.n q.day q.f q.t S
    have hop := fnd_op (p := p) (l := l) (sh := sh) (c := q.c) (n := q.n) (day := q.day) (f := q.f) (t := q.t)
    generalize fndF p l sh q.c q.n q.day q.f q.t = F at h1 h2 hop
    have h4 := fun S => opr_A sh F.1 hs S
    simp only [plV, sgR] at h1 h2 h4
    simp (disch := first | omega | (simp only [lenT]; omega)) only [evSt, ↓evPre, ↓evPreW, evPost, evPostW, evR, evU, seval]
    refine (h1 _).then ?_
    simp (disch := first | omega | (simp only [lenT]; omega)) only [evSt, ↓evPre, ↓evPreW, evPost, evPostW, evR, evU, seval]
    refine (h2 _).then ?_
    by_cases h0 : F.2 = 0
    · have hz := hop h0
      have h5 := fun S => rsegF_A p hR.h1 l hR.h2 (oprF sh F.1).c (oprF sh F.1).n (oprF sh F.1).day (oprF sh F.1).f (oprF sh F.1).t S
      rw [hz] at h5
      simp only [plV, sgR] at h5
      simp (disch := first | omega | (simp only [lenT]; omega)) only [dT h0, eq_self, decide_true, Bool.and_self, Bool.not_true, evSt, ↓evPre, ↓evPreW, evPost, evPostW, evR, evU, seval]
      refine (h4 _).then ?_
      simp (disch := first | omega | (simp only [lenT]; omega)) only [evSt, ↓evPre, ↓evPreW, evPost, evPostW, evR, evU, seval]
      refine (h5 _).then ?_
      simp (disch := first | omega | (simp only [lenT]; omega)) only [eq_self, decide_true, Bool.and_self, evSt, ↓evPre, ↓evPreW, evPost, evPostW, evR, evU, seval]
      refine (awakeS_A _).then ?_
      simp (disch := first | omega | (simp only [lenT]; omega)) only [evSt, ↓evPre, ↓evPreW, evPost, evPostW, evR, evU, seval]
      exact ⟨_, S, hn.fgt _, .imm rfl, Nat.le_refl _, rfl, rfl⟩
    · simp (disch := first | omega | (simp only [lenT]; omega)) only [dF h0, eq_self, decide_true, Bool.and_self, Bool.not_true, evSt, ↓evPre, ↓evPreW, evPost, evPostW, evR, evU, seval]
      refine (awakeS_A _).then ?_
      simp (disch := first | omega | (simp only [lenT]; omega)) only [evSt, ↓evPre, ↓evPreW, evPost, evPostW, evR, evU, seval]
      exact ⟨_, S, hn.fgt _, .imm rfl, Nat.le_refl _, rfl, rfl⟩
set_option maxHeartbeats 4000000 in
theorem law_same (p : Pls) (l : List Fl) (sh : List Sr) (day : Int) (ha : ASm p l sh) (S : Store) : CallA Tryz.prog 10 [plV p, .sl 6 (l.map flR), .sl 9 (sh.map srR), .int .i64 day] S fun r S' => r = .bool true ∧ S' = S := by
  refine CallA.withNeat Tryz.func10 c510 fun hn => ?_
  refine CallA.fin Tryz.func10 c510 (Nat.le_of_ble_eq_true rfl) fun σ hσ => ?_
  have hr := fun S => right_A p l sh ha S
  simp only [plV] at hr
  simp (disch := first | omega | (simp only [lenT]; omega)) only [a510, plV, evSt, ↓evPre, ↓evPreW, evPost, evPostW, evR, evU, seval]
  refine (hr _).mono ?_
  rintro _ S2 ⟨b, rfl, hb, hS2⟩
  rw [hS2]
  cases b with
  | false =>
    simp (disch := first | omega | (simp only [lenT]; omega)) only [evSt, ↓evPre, ↓evPreW, evPost, evPostW, evR, evU, seval]
    refine (awakeS_A _).then ?_
    simp (disch := first | omega | (simp only [lenT]; omega)) only [evSt, ↓evPre, ↓evPreW, evPost, evPostW, evR, evU, seval]
    exact ⟨_, S, hn.self, .imm rfl, Nat.le_refl _, rfl, rfl⟩
  | true =>
    have hR := hb rfl
    have hs := ha.h4
    have hs12 := hR.h3
    have h1 := fun S => rcheckS_A p l hR.h2 sh (by omega) S
    have h2 := fun S => sold_A p hR.h1 l hR.h2 sh (by omega) day S
    have hlen : (soldF p l sh day).length ≤ 100000000 := by have := sold2_len (p := p) (sh := sh) (day := day) hR.h2 sh.length; have := hR.h2.h1; rw [sold_eq]; omega
    simp only [plV] at h1 h2
    simp (disch := first | omega | (simp only [lenT]; omega)) only [evSt, ↓evPre, ↓evPreW, evPost, evPostW, evR, evU, seval]
    refine (h1 _).then ?_
    by_cases h0 : chkF l sh = []
    case neg =>
      have h0' : decide ((0 : Int) < (chkF l sh).length) = true := decide_eq_true (by have := List.length_pos_iff.2 h0; omega)
      simp (disch := first | omega | (simp only [lenT]; omega)) only [h0', evSt, ↓evPre, ↓evPreW, evPost, evPostW, evR, evU, seval]
      refine (awakeS_A _).then ?_
      simp (disch := first | omega | (simp only [lenT]; omega)) only [evSt, ↓evPre, ↓evPreW, evPost, evPostW, evR, evU, seval]
      exact ⟨_, S, hn.self, .imm rfl, Nat.le_refl _, rfl, rfl⟩
    have h0' : decide ((0 : Int) < (chkF l sh).length) = false := decide_eq_false (by rw [h0]; simp)
    have hcov := fun (s : Sg) (hm : s ∈ soldF p l sh day) => sold_cov hR.h4 (chk_ok h0) hm
    simp (disch := first | omega | (simp only [lenT]; omega)) only [h0', evSt, ↓evPre, ↓evPreW, evPost, evPostW, evR, evU, seval]
    refine (h2 _).then ?_
    generalize soldF p l sh day = D at hcov hlen
    simp (disch := first | omega | (simp only [lenT]; omega)) only [evSt, ↓evPre, ↓evPreW, evPost, evPostW, evR, evU, seval]
    refine loopF (ι := Nat) (fun i => [(1, .sl 6 (l.map flR)), (2, .sl 9 (sh.map srR)), (3, .int .i64 day), (4, .cptr [.sl 5 (p.1.map aptR), .sl 3 (p.2.map dstR)]), (9, .sl 7 (D.map sgR)), (10, .int .i64 (i : Nat))]) (fun _ => S) (fun i => i ≤ D.length) (fun i => D.length - i) (fun i hi => by rw [hσ]; exact Nat.le_refl _) 0 (Nat.zero_le _) (.inl ⟨?_, rfl⟩) ?_
    · simp only [↓evPre, ↓evPreW, evPost, evPostW, evR, evU, seval]
      try rfl
    intro i hi
    cases hc : D[i]? with
    | none =>
      have hge := List.getElem?_eq_none_iff.1 hc
      have hlt : ¬ ((i : Int) < D.length) := by omega
      simp (disch := first | omega | (simp only [lenT]; omega)) only [dF hlt, evSt, ↓evPre, ↓evPreW, evPost, evPostW, evR, evU, seval]
      refine (awakeS_A _).then ?_
      simp (disch := first | omega | (simp only [lenT]; omega)) only [evSt, ↓evPre, ↓evPreW, evPost, evPostW, evR, evU, seval]
      exact ⟨_, S, hn.self, .imm rfl, Nat.le_refl _, rfl, rfl⟩
    | some s =>
      have hlt' := (List.getElem?_eq_some_iff.1 hc).1
      have hlt : ((i : Int) < D.length) := by omega
      have hi1 : (i : Int) + 1 = ((i + 1 : Nat) : Int) := by omega
      obtain ⟨q1, q2, q3, q4⟩ := hcov s (List.mem_of_getElem? hc)
      have g1 := fun S => opr_A sh s hs S
      have g2 := fun S => cover_A p hR.h1 l hR.h2 sh hs s S
      have g3 := fun S => cover_A p hR.h1 l hR.h2 sh hs (oprF sh s) S
      rw [q2] at g3
      rw [q1] at g2 g3
      have hcl := cov_len (p := p) hR.h2 sh s
      generalize (covF p l sh s).1 = A at g2 g3 q3 q4 hcl
      generalize oprF sh s = o at g1 g3 q4
      have g4 := fun S => sameId_A A A (by omega) S
      rw [dT rfl] at g4
      have hAl : decide (((A.length : Nat) : Int) = 0) = false := decide_eq_false (by have := List.length_pos_iff.2 q3; omega)
      simp only [plV, sgR] at g1 g2 g3
      simp (disch := first | omega | (simp only [lenT]; omega)) only [dT hlt, hc, sgR, evSt, ↓evPre, ↓evPreW, evPost, evPostW, evR, evU, seval]
      refine (g1 _).then ?_
      simp (disch := first | omega | (simp only [lenT]; omega)) only [hc, sgR, evSt, ↓evPre, ↓evPreW, evPost, evPostW, evR, evU, seval]
      refine (g2 _).then ?_
      simp (disch := first | omega | (simp only [lenT]; omega)) only [evSt, ↓evPre, ↓evPreW, evPost, evPostW, evR, evU, seval]
      refine (g3 _).then ?_
      simp (disch := first | omega | (simp only [lenT]; omega)) only [evSt, ↓evPre, ↓evPreW, evPost, evPostW, evR, evU, seval]
      refine (g4 _).then ?_
      simp (disch := first | omega | (simp only [lenT]; omega)) only [hAl, evSt, ↓evPre, ↓evPreW, evPost, evPostW, evR, evU, seval]
      refine loopA (ι := Nat) (fun k => [(1, .sl 6 (l.map flR)), (2, .sl 9 (sh.map srR)), (3, .int .i64 day), (4, .cptr [.sl 5 (p.1.map aptR), .sl 3 (p.2.map dstR)]), (9, .sl 7 (D.map sgR)), (10, .int .i64 (i : Nat)), (11, .ptr S.length 0 0 0), (12, .sl 4 (A.map idR)), (16, .int .i64 (k : Nat))]) (fun _ => S ++ [⟨0, some (.arr 50 7 [sgR o])⟩]) (fun k => k ≤ A.length) (fun k => A.length - k) 0 (Nat.zero_le _) ?_ rfl ?_
      · simp only [↓evPre, ↓evPreW, evPost, evPostW, evR, evU, seval]
        try rfl
      intro k hk
      cases hck : A[k]? with
      | none =>
        have hge := List.getElem?_eq_none_iff.1 hck
        have hltk : ¬ ((k : Int) < A.length) := by omega
        simp (disch := first | omega | (simp only [lenT]; omega)) only [dF hltk, wrap_i64, hi1, evSt, ↓evPre, ↓evPreW, evPost, evPostW, evR, evU, seval]
        exact ⟨i + 1, by omega, by omega, back_under (hn.fgt _) (by simp only [↓evPre, ↓evPreW, evPost, evPostW, evR, evU, seval]; try rfl) (by simp [V.under, V.allUnder])⟩
      | some a =>
        have hltk' := (List.getElem?_eq_some_iff.1 hck).1
        have hltk : ((k : Int) < A.length) := by omega
        have hk1 : (k : Int) + 1 = ((k + 1 : Nat) : Int) := by omega
        obtain ⟨w1, w2, w3⟩ := q4 a (List.mem_of_getElem? hck)
        simp (disch := first | omega | (simp only [lenT]; omega)) only [dT hltk, hck, dT w1, dT w2, dT w3, idR, sgR, wrap_i64, hk1, evSt, ↓evPre, ↓evPreW, evPost, evPostW, evR, evU, seval]
        exact ⟨k + 1, by omega, by omega, rfl⟩
end Go.Proofs.YtiihkfjbllpiaaaGreatDoor
