/- Which prices are right; the example; law Of. -/
import Derived.Test.YtkdbghhdklfoiaaDoorRFc5
namespace Go.Proofs.YtkdbghhdklfoiaaDoor
open Go Go.AL Go.RowKit
set_option linter.unusedSectionVars false
variable [Go.AL.Mode] [Go.AL.LooseM]
set_option linter.unusedSimpArgs false
set_option linter.unusedVariables false
def prR (p : Cm.Pls) (t : Cm.Tar) (tx : List (List V)) (l : List Cm.Wnt) (q : Qt) : List V :=
  [.sl 5 (p.1.map Cm.aptR), .sl 3 (p.2.map Cm.dstR), .sl 9 (t.fares.map Cm.frR), .sl 15 (t.rules.map Cm.rulR), .sl 3 (t.routs.map Cm.rouR), .sl 7 tx, .sl 8 (l.map Cm.wntR), .sl 4 (q.ps.map ptR), .sl 2 (q.prs.map Cm.shR), .sl 2 (q.tx.map chgR), .int .i64 q.fare, .int .i64 q.tot]
set_option maxHeartbeats 4000000 in
theorem right_A (p : Cm.Pls) (t : Cm.Tar) (tx : List (List V)) (l : List Cm.Wnt) (q : Qt) (S : Store) : CallA Tryd.prog 6 [.agg (prR p t tx l q)] S fun r S' => ∃ b, r = .bool b ∧ (b = true → RtOk p t l q) ∧ S' = S := by
  refine CallA.withNeat Tryd.func6 c10006 fun hn => ?_
  refine (CallA.fin Tryd.func6 c10006 (R := fun v S' => (∃ b, v = .bool b ∧ (b = true → RtOk p t l q)) ∧ S' = S) (Nat.le_of_ble_eq_true rfl) fun σ hσ => ?_).mono fun v S' ⟨⟨b, h1, h2⟩, h3⟩ => ⟨b, h1, h2, h3⟩
  have bg := fun S => Cm.big_A p t tx l S
  simp only [Cm.plV, Cm.tarV] at bg
  simp (disch := first | omega | (simp only [lenT]; omega)) only [a10006, prR, evSt, ↓evPre, ↓evPreW, evPost, evPostW, evR, evU, seval]
  refine (bg _).mono ?_
  rintro r S2 ⟨b, rfl, hb, hS2⟩
  rw [hS2]
  clear hS2 S2
  cases b with
  | true =>
    simp (disch := first | omega | (simp only [lenT]; omega)) only [evSt, ↓evPre, ↓evPreW, evPost, evPostW, evR, evU, seval]
    exact ⟨_, _, hn.self, .imm rfl, Nat.le_refl _, ⟨_, rfl, fun h => by cases h⟩, rfl⟩
  | false =>
  have hsm := hb rfl
  clear bg hb
  by_cases h1 : (10 : Int) < q.ps.length
  · simp (disch := first | omega | (simp only [lenT]; omega)) only [dT h1, evSt, ↓evPre, ↓evPreW, evPost, evPostW, evR, evU, seval]
    exact ⟨_, _, hn.self, .imm rfl, Nat.le_refl _, ⟨_, rfl, fun h => by cases h⟩, rfl⟩
  by_cases h2 : (20 : Int) < q.tx.length
  · simp (disch := first | omega | (simp only [lenT]; omega)) only [dF h1, dT h2, evSt, ↓evPre, ↓evPreW, evPost, evPostW, evR, evU, seval]
    exact ⟨_, _, hn.self, .imm rfl, Nat.le_refl _, ⟨_, rfl, fun h => by cases h⟩, rfl⟩
  have pl := fun S => Cm.rplaces2_A p (by have := hsm.apts; omega) (by have := hsm.dsts; omega) S
  simp only [Cm.plV] at pl
  simp (disch := first | omega | (simp only [lenT]; omega)) only [dF h1, dF h2, evSt, ↓evPre, ↓evPreW, evPost, evPostW, evR, evU, seval]
  refine (pl _).mono ?_
  rintro r S3 ⟨es, rfl, _, hS3⟩
  rw [hS3]
  clear hS3 S3
  by_cases h3 : (0 : Int) < es.length
  · simp (disch := first | omega | (simp only [lenT]; omega)) only [dT h3, evSt, ↓evPre, ↓evPreW, evPost, evPostW, evR, evU, seval]
    exact ⟨_, _, hn.self, .imm rfl, Nat.le_refl _, ⟨_, rfl, fun h => by cases h⟩, rfl⟩
  simp (disch := first | omega | (simp only [lenT]; omega)) only [dF h3, evSt, ↓evPre, ↓evPreW, evPost, evPostW, evR, evU, seval]
  clear pl h3
  refine loopF (ι := Nat × Nat) (fun i => [(1, .cptr (prR p t tx l q)), (3, .int .i64 (i.2 : Nat)), (4, .int .i64 (i.1 : Nat))]) (fun _ => S)
    (fun i => i.1 ≤ q.ps.length ∧ i.2 ≤ l.length ∧ ∀ y ∈ q.ps.take i.1, 0 ≤ y.fr ∧ y.fr ≤ y.to ∧ y.to ≤ l.length ∧ 0 ≤ y.fare ∧ y.fare < t.fares.length) (fun i => q.ps.length - i.1) (fun i hi => by rw [hσ]; exact Nat.le_refl _) (0, 0) ⟨Nat.zero_le _, Nat.zero_le _, fun y hy => by simp at hy⟩ (.inl ⟨?_, rfl⟩) ?_
  · simp only [prR, ↓evPre, ↓evPreW, evPost, evPostW, evR, evU, seval]
    try rfl
  rintro ⟨k, a⟩ ⟨hk, ha, hq⟩
  simp only at hk ha hq ⊢
  cases hcx : q.ps[k]? with
  | none =>
    have hge : q.ps.length ≤ k := List.getElem?_eq_none_iff.1 hcx
    have hlt : ¬ ((k : Int) < q.ps.length) := by omega
    rw [List.take_of_length_le hge] at hq
    cases hd : decide ((a : Int) = l.length) with
    | true =>
      simp (disch := first | omega | (simp only [lenT]; omega)) only [dF hlt, hd, prR, evSt, ↓evPre, ↓evPreW, evPost, evPostW, evR, evU, seval]
      exact ⟨_, _, hn.self, .imm rfl, Nat.le_refl _, ⟨_, rfl, fun _ => ⟨hsm, by omega, by omega, hq⟩⟩, rfl⟩
    | false =>
      simp (disch := first | omega | (simp only [lenT]; omega)) only [dF hlt, hd, prR, evSt, ↓evPre, ↓evPreW, evPost, evPostW, evR, evU, seval]
      exact ⟨_, _, hn.self, .imm rfl, Nat.le_refl _, ⟨_, rfl, fun h => by cases h⟩, rfl⟩
  | some y =>
    have hlt' := (List.getElem?_eq_some_iff.1 hcx).1
    have hlt : ((k : Int) < q.ps.length) := by omega
    have hk1 : (k : Int) + 1 = ((k + 1 : Nat) : Int) := by omega
    have hbad : ∃ r1 S1, Fgt (S ++ [⟨0, some (.arr 69 4 [ptR y])⟩]) S1 ∧ Frz (S ++ [⟨0, some (.arr 69 4 [ptR y])⟩]) S1 (.bool false) r1 ∧ S.length ≤ S1.length ∧ (∃ b, r1 = .bool b ∧ (b = true → RtOk p t l q)) ∧ S1 = S :=
      ⟨_, S, hn.fgt _, .imm rfl, Nat.le_refl _, ⟨_, rfl, fun h => by cases h⟩, rfl⟩
    unfold ptR at hbad
    by_cases z1 : y.fr = (a : Int)
    case neg =>
      simp (disch := first | omega | (simp only [lenT]; omega)) only [dT hlt, hcx, ptR, prR, dF z1, evSt, ↓evPre, ↓evPreW, evPost, evPostW, evR, evU, seval]
      exact hbad
    by_cases z2 : y.to ≤ (a : Int)
    · simp (disch := first | omega | (simp only [lenT]; omega)) only [dT hlt, hcx, ptR, prR, z1, dT z2, evSt, ↓evPre, ↓evPreW, evPost, evPostW, evR, evU, seval]
      rw [z1] at hbad
      exact hbad
    by_cases z3 : (l.length : Int) < y.to
    · simp (disch := first | omega | (simp only [lenT]; omega)) only [dT hlt, hcx, ptR, prR, z1, dF z2, dT z3, evSt, ↓evPre, ↓evPreW, evPost, evPostW, evR, evU, seval]
      rw [z1] at hbad
      exact hbad
    by_cases z4 : y.fare < 0
    · simp (disch := first | omega | (simp only [lenT]; omega)) only [dT hlt, hcx, ptR, prR, z1, dF z2, dF z3, dT z4, evSt, ↓evPre, ↓evPreW, evPost, evPostW, evR, evU, seval]
      rw [z1] at hbad
      exact hbad
    by_cases z5 : (t.fares.length : Int) ≤ y.fare
    · simp (disch := first | omega | (simp only [lenT]; omega)) only [dT hlt, hcx, ptR, prR, z1, dF z2, dF z3, dF z4, dT z5, evSt, ↓evPre, ↓evPreW, evPost, evPostW, evR, evU, seval]
      rw [z1] at hbad
      exact hbad
    simp (disch := first | omega | (simp only [lenT]; omega)) only [dT hlt, hcx, ptR, prR, z1, dF z2, dF z3, dF z4, dF z5, wrap_i64, hk1, evSt, ↓evPre, ↓evPreW, evPost, evPostW, evR, evU, seval]
    refine ⟨(k + 1, y.to.toNat), ⟨by simp only; omega, by simp only; omega, ?_⟩, by simp only; omega, back_under (hn.fgt _) (by simp only [prR, show ((y.to.toNat : Nat) : Int) = y.to by omega, ↓evPre, ↓evPreW, evPost, evPostW, evR, evU, seval]; try rfl) (by simp [V.under, V.allUnder])⟩
    exact mem_next hq hcx ⟨by omega, by omega, by omega, by omega, by omega⟩
def lonW : Txt := [76, 79, 78]
def nycW : Txt := [78, 89, 67]
def baW : Txt := [66, 65]
def yowW : Txt := [89, 79, 87]
def exC : Cal := ⟨[⟨[lonW, nycW], [baW], 10000, yowW⟩, ⟨[nycW, lonW], [baW], 10000, yowW⟩], [⟨[71, 66], 1300⟩, ⟨[85, 83], 500⟩], 20000, 21800⟩
def exT : Txt := [76, 79, 78, 32, 66, 65, 32, 78, 89, 67, 32, 49, 48, 48, 46, 48, 48, 32, 89, 79, 87, 32, 66, 65, 32, 76, 79, 78, 32, 49, 48, 48, 46, 48, 48, 32, 89, 79, 87, 32, 70, 65, 82, 69, 32, 50, 48, 48, 46, 48, 48, 32, 84, 65, 88, 32, 71, 66, 32, 49, 51, 46, 48, 48, 32, 84, 65, 88, 32, 85, 83, 32, 53, 46, 48, 48, 32, 84, 79, 84, 65, 76, 32, 50, 49, 56, 46, 48, 48]
theorem ex_ok : chkF exC = 0 := by decide +kernel
theorem ex_line : lineF (prW exC) = exT := by
  have h1 : amW 10000 = [49, 48, 48, 46, 48, 48] := by unfold amW amtF; rw [show (10000 : Int).toNat = 10000 from rfl]; simp [Lib.decDigits]
  have h2 : amW 20000 = [50, 48, 48, 46, 48, 48] := by unfold amW amtF; rw [show (20000 : Int).toNat = 20000 from rfl]; simp [Lib.decDigits]
  have h3 : amW 1300 = [49, 51, 46, 48, 48] := by unfold amW amtF; rw [show (1300 : Int).toNat = 1300 from rfl]; simp [Lib.decDigits]
  have h4 : amW 500 = [53, 46, 48, 48] := by unfold amW amtF; rw [show (500 : Int).toNat = 500 from rfl]; simp [Lib.decDigits]
  have h5 : amW 21800 = [50, 49, 56, 46, 48, 48] := by unfold amW amtF; rw [show (21800 : Int).toNat = 21800 from rfl]; simp [Lib.decDigits]
  unfold prW itsW txsW exC
  simp only [List.flatMap_cons, List.flatMap_nil, itmW, chgW, legsW, List.tail_cons, h1, h2, h3, h4, h5, List.head?_cons, Option.bind_some, Option.getD_some]
  decide +kernel
end Go.Proofs.YtkdbghhdklfoiaaDoor
/- The example; law Of. -/
namespace Go.Proofs.YtkdbghhdklfoiaaDoor
open Go Go.AL Go.RowKit
set_option linter.unusedSectionVars false
variable [Go.AL.Mode] [Go.AL.LooseM]
set_option linter.unusedSimpArgs false
set_option linter.unusedVariables false
theorem chk_lens {c : Cal} (h : chkF c = 0) : c.its.length ≤ 1000000 ∧ c.txs.length ≤ 1000000 ∧ ∀ x ∈ c.its, x.cs.length ≤ 1000000000 ∧ x.ks.length ≤ 1000000000 := by
  have hok := chk_ok h
  have := hok.n6
  have := hok.n512
  refine ⟨by omega, by omega, fun x hx => ?_⟩
  have := sz_inv (its_ok hok.its x hx).1
  omega
theorem line_len {c : Cal} (h : chkF c = 0) : (lineF (prW c)).length ≤ 100000 := by
  have hok := chk_ok h
  have hi := its_ok hok.its
  have hw := prW_wd hok
  have h1 := join_len [32] 30 (prW c) fun t ht => (hw t ht).2
  have h2 := itsW_len fun x hx => (hi x hx).1
  have h3 := txsW_len c.txs
  have h4 := hok.n6
  have h5 := hok.n512
  have h6 : (prW c).length ≤ 2000 := by
    unfold prW
    simp only [List.length_append, List.length_cons, List.length_nil]
    omega
  unfold lineF
  simp only [List.length_cons, List.length_nil] at h1
  omega
theorem parseP_A {c : Cal} (h : chkF c = 0) (S : Store) : CallA Tryd.prog 14 [.str (lineF (prW c))] S fun r S' => r = .tup [.agg (calR c), .int .i64 0] ∧ S' = S := by
  obtain ⟨h1, h2⟩ := par_line (fun _ => none) h
  have hp := parse_A (fun _ => none) (fun p t h => by cases h) (lineF (prW c)) (line_len h) (fun l hl p hpl hpp S => by
    rw [h2] at hl
    cases hl
    have := (prW_wd (chk_ok h) p hpl).1
    rw [this] at hpp
    cases hpp) S
  rw [h1] at hp
  exact hp
set_option maxHeartbeats 1000000 in
theorem awake_A (S : Store) : CallA Tryd.prog 7 [] S fun r S' => r = .bool true ∧ S' = S := by
  refine CallA.withNeat Tryd.func7 c10007 fun hn => ?_
  refine CallA.fin Tryd.func7 c10007 (Nat.le_of_ble_eq_true rfl) fun σ hσ => ?_
  obtain ⟨l1, l2, l3⟩ := chk_lens ex_ok
  have pr := fun S => print_A exC (fun x hx => l3 x hx) (by omega) (by omega) S
  have pa := fun S => parseP_A ex_ok S
  have fm := fun S => from_A exC l1 S
  have sm := fun S => same_A exC ⟨l1, l2⟩ l3 S
  unfold priF at pr
  rw [ex_ok] at pr
  simp only [if_true, ex_line] at pr pa
  simp only [exC, calR, itmR, chgR, txR, exT, lonW, nycW, baW, yowW, List.map_cons, List.map_nil] at pr pa fm sm
  simp (disch := first | omega | (simp only [lenT]; omega)) only [a10007, evSt, ↓evPre, ↓evPreW, evPost, evPostW, evR, evU, seval]
  refine (pr _).then ?_
  simp (disch := first | omega | (simp only [lenT]; omega)) only [evSt, ↓evPre, ↓evPreW, evPost, evPostW, evR, evU, seval]
  refine (pa _).then ?_
  simp (disch := first | omega | (simp only [lenT]; omega)) only [evSt, ↓evPre, ↓evPreW, evPost, evPostW, evR, evU, seval]
  refine exD.intro (fm _) ?_
  simp (disch := first | omega | (simp only [lenT]; omega)) only [evSt, ↓evPre, ↓evPreW, evPost, evPostW, evR, evU, seval]
  refine (fm _).then ?_
  simp (disch := first | omega | (simp only [lenT]; omega)) only [evSt, ↓evPre, ↓evPreW, evPost, evPostW, evR, evU, seval]
  refine (sm _).then ?_
  simp (disch := first | omega | (simp only [lenT]; omega)) only [evSt, ↓evPre, ↓evPreW, evPost, evPostW, evR, evU, seval]
  exact ⟨_, S, hn.fgt _, .imm rfl, Nat.le_refl _, rfl, rfl⟩
theorem cities_len (p : Cm.Pls) (l : List Cm.Wnt) : (Cm.citiesF p l).length ≤ l.length + 1 := by
  cases l with
  | nil => simp [Cm.citiesF]
  | cons w r => exact Nat.le_of_eq (Cm.cs_len p (w :: r) (by simp))
theorem of_lens {p : Cm.Pls} {t : Cm.Tar} {l : List Cm.Wnt} {q : Qt} (h : RtOk p t l q) : (ofF p t l q).its.length ≤ 1000000 ∧ (ofF p t l q).txs.length ≤ 1000000 ∧ ∀ x ∈ (ofF p t l q).its, x.cs.length ≤ 1000000000 ∧ x.ks.length ≤ 1000000000 := by
  have h1 := h.n10
  have h2 := h.n20
  have h3 := h.sml.segs
  refine ⟨by simp [ofF]; omega, by simp [ofF]; omega, fun x hx => ?_⟩
  obtain ⟨y, hy, rfl⟩ := List.mem_map.1 hx
  have h4 : (segF l y).length ≤ 8 := by unfold segF; rw [List.length_drop, List.length_take]; omega
  have h5 := cities_len p (segF l y)
  unfold itemOf
  simp only [List.length_map]
  omega
end Go.Proofs.YtkdbghhdklfoiaaDoor
