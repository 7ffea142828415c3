/- The reference's Print. -/
import Derived.Test.YtkdbghhdklfoiaaDoorSFg2
namespace Go.Proofs.YtkdbghhdklfoiaaDoor
open Go Go.AL Go.RowKit
set_option linter.unusedSectionVars false
variable [Go.AL.Mode] [Go.AL.LooseM]
set_option linter.unusedSimpArgs false
set_option linter.unusedVariables false
set_option maxHeartbeats 4000000 in
theorem rprint_A (c : Cal) (hcl : ∀ x ∈ c.its, x.cs.length ≤ 1000000000 ∧ x.ks.length ≤ 1000000000) (l1 : c.its.length ≤ 1000000000) (l2 : c.txs.length ≤ 1000000000) (S : Store) :
    CallA Tryd.prog 17 [.agg (calR c)] S fun r S' => r = .tup [.str (priF c).1, .int .i64 (priF c).2] ∧ S' = S := by
  refine CallA.withNeat Tryd.func17 c10017 fun hn => ?_
  refine CallA.fin Tryd.func17 c10017 (Nat.le_of_ble_eq_true rfl) fun σ hσ => ?_
  have ck := fun S => rchk_A c hcl l1 l2 S
  unfold priF
  simp only [calR] at ck
  simp (disch := first | omega | (simp only [lenT]; omega)) only [a10017, calR, evSt, ↓evPre, ↓evPreW, evPost, evPostW, evR, evU, seval]
  refine (ck _).then ?_
  by_cases he : chkF c = 0
  case neg =>
    simp (disch := first | omega | (simp only [lenT]; omega)) only [dF he, he, if_false, evSt, ↓evPre, ↓evPreW, evPost, evPostW, evR, evU, seval]
    exact ⟨_, S, hn.self, .imm rfl, Nat.le_refl _, rfl, rfl⟩
  have hok := chk_ok he
  have hwd := prW_wd hok
  rw [he, if_pos rfl]
  have hi := its_ok hok.its
  have ht := txs_ok hok.txs
  obtain ⟨x0, hx0⟩ : ∃ x, c.its[0]? = some x := ⟨_, List.getElem?_eq_getElem (by have := hok.n1; omega)⟩
  have hx0s := hi x0 (List.mem_of_getElem? hx0)
  obtain ⟨c0, hc0⟩ : ∃ t, x0.cs[0]? = some t := ⟨_, List.getElem?_eq_getElem (List.length_pos_iff.2 (sz_ne hx0s.1))⟩
  have hpr : prW c = (([c0] ++ itsW c.its) ++ [faW, amW c.fare]) ++ txsW c.txs ++ [toW, amW c.tot] := by
    unfold prW
    rw [List.head?_eq_getElem?, hx0, Option.bind_some, List.head?_eq_getElem?, hc0]
    rfl
  obtain ⟨ws, hws⟩ : ∃ ws, ws = prW c := ⟨_, rfl⟩
  rw [← hws] at hwd hpr ⊢
  simp (disch := first | omega | (simp only [lenT]; omega)) only [hx0, hc0, itmR, txR, evSt, ↓evPre, ↓evPreW, evPost, evPostW, evR, evU, seval]
  have hP0 : PrS S ([c0] ++ itsW (c.its.take 0)) (.msl S.length 0 0 1) (S ++ [⟨0, some (.arr 9 1 [[.str c0]])⟩]) := ⟨.inr ⟨S.length, 0, Nat.le_refl _, rfl, ob_app0.trans ob_head⟩, ⟨_, rfl⟩⟩
  have hil : ∀ k, (itsW (c.its.take k)).length ≤ 100 := fun k => by
    have := itsW_len (l := c.its.take k) fun x hx => (hi x (List.mem_of_mem_take hx)).1
    rw [List.length_take] at this
    have := hok.n6
    omega
  have htl : ∀ k, (txsW (c.txs.take k)).length ≤ 2000 := fun k => by
    have := txsW_len (c.txs.take k)
    rw [List.length_take] at this
    have := hok.n512
    omega
  have hcL := hok.n6
  have hcT := hok.n512
  refine loopF (ι := Nat × V × Store) (fun i => [(1, .cptr (calR c)), (5, i.2.1), (6, .int .i64 i.1)]) (fun i => i.2.2)
    (fun i => i.1 ≤ c.its.length ∧ PrS S ([c0] ++ itsW (c.its.take i.1)) i.2.1 i.2.2) (fun i => c.its.length - i.1)
    (fun i hi => by rw [hσ]; exact hi.2.len) (0, .msl S.length 0 0 1, _) ⟨Nat.zero_le _, hP0⟩ (.inl ⟨?_, rfl⟩) ?_
  · simp only [calR, ↓evPre, ↓evPreW, evPost, evPostW, evR, evU, seval]
    try rfl
  clear hP0
  rintro ⟨k, v, S1⟩ ⟨hk, hP⟩
  simp only at hk hP ⊢
  have hilk := hil k
  cases hcx : c.its[k]? with
  | some x =>
    have hlt' := (List.getElem?_eq_some_iff.1 hcx).1
    have hlt : ((k : Int) < c.its.length) := by omega
    have hk1 : (k : Int) + 1 = ((k + 1 : Nat) : Int) := by omega
    obtain ⟨x1, x2, x3⟩ := hi x (List.mem_of_getElem? hcx)
    have xl := hcl x (List.mem_of_getElem? hcx)
    have hsz : 1 ≤ x.ks.length ∧ x.ks.length ≤ 6 ∧ x.cs.length = x.ks.length + 1 := by
      unfold szB at x1
      simp only [Bool.and_eq_true, decide_eq_true_eq] at x1
      omega
    simp (disch := first | omega | (simp only [lenT]; omega)) only [dT hlt, hcx, itmR, calR, evSt, ↓evPre, ↓evPreW, evPost, evPostW, evR, evU, seval]
    have hP1 := hP.add [⟨0, some (.arr 75 4 [itmR x])⟩]
    have hb1 : Store.obj? (S1 ++ [⟨0, some (.arr 75 4 [itmR x])⟩]) S1.length 0 = some (75, 4, [itmR x]) := ob_app0.trans ob_head
    refine loopF (ι := Nat × V × Store) (fun i => [(1, .cptr (calR c)), (5, i.2.1), (6, .int .i64 k), (7, .ptr S1.length 0 0 0), (8, .int .i64 i.1)]) (fun i => i.2.2)
      (fun i => i.1 ≤ x.ks.length ∧ PrS S (([c0] ++ itsW (c.its.take k)) ++ legsW (x.ks.take i.1) (x.cs.tail.take i.1)) i.2.1 i.2.2 ∧ i.2.2.obj? S1.length 0 = some (75, 4, [itmR x]) ∧ ∀ j, idOf i.2.1 j → j ≠ S1.length) (fun i => x.ks.length - i.1)
      (fun i hi => by rw [hσ]; exact hi.2.1.len) (0, v, _) ⟨Nat.zero_le _, by simpa [legsW] using hP1, hb1, fun j hj => by have := (hP.l.lt hj).1; omega⟩ (.inl ⟨?_, rfl⟩) ?_
    · simp only [itmR, calR, ↓evPre, ↓evPreW, evPost, evPostW, evR, evU, seval]
      try rfl
    clear hP1 hb1 hP v
    rintro ⟨i, v, S2⟩ ⟨hik, hP, hb, hd⟩
    simp only at hik hP hb hd ⊢
    have hgl := legsW_len (x.ks.take i) (x.cs.tail.take i)
    rw [List.length_take] at hgl
    unfold itmR at hb
    cases hcy : x.ks[i]? with
    | some t =>
      have hlt2' := (List.getElem?_eq_some_iff.1 hcy).1
      have hlt2 : ((i : Int) < x.ks.length) := by omega
      have hi1 : (i : Int) + 1 = ((i + 1 : Nat) : Int) := by omega
      obtain ⟨d, hd1⟩ : ∃ d, x.cs[i + 1]? = some d := ⟨_, List.getElem?_eq_getElem (by omega)⟩
      have hd2 : x.cs.tail[i]? = some d := by rw [List.getElem?_tail]; exact hd1
      simp (disch := first | omega | (simp only [lenT]; omega)) only [dT hlt2, hcy, hb, txR, wrap_i64, hi1, hd1, evSt, ↓evPre, ↓evPreW, evPost, evPostW, evR, evU, seval]
      refine hP.app (rs := [t, d]) (by simp; omega) fun v' S3 hP3 f3 i3 => ?_
      have hb3 := f3.obj hb fun hj => hd _ hj rfl
      have hS2 := obj_lt hb
      simp (disch := first | omega | (simp only [lenT]; omega)) only [wrap_i64, hi1, evSt, ↓evPre, ↓evPreW, evPost, evPostW, evR, evU, seval]
      refine ⟨(i + 1, v', S3), ⟨by simp only; omega, ?_, hb3, fun j hj => ?_⟩, by simp only; omega, .inl ⟨by simp only [↓evPre, ↓evPreW, evPost, evPostW, evR, evU, seval]; try rfl, rfl⟩⟩
      · simp only
        rw [legsW_next hcy hd2, ← List.append_assoc]
        exact hP3
      · rcases i3 j hj with hj | hj
        · exact hd j hj
        · omega
    | none =>
      have hge : x.ks.length ≤ i := List.getElem?_eq_none_iff.1 hcy
      have hlt2 : ¬ ((i : Int) < x.ks.length) := by omega
      have e2 : x.cs.tail.take i = x.cs.tail := List.take_of_length_le (by rw [List.length_tail]; omega)
      rw [List.take_of_length_le hge, e2] at hP
      have mp := fun S => rmprint_A x.am x3 S
      have hgl := legsW_len x.ks x.cs.tail
      simp (disch := first | omega | (simp only [lenT]; omega)) only [dF hlt2, hb, evSt, ↓evPre, ↓evPreW, evPost, evPostW, evR, evU, seval]
      refine exD.intro (mp _) ?_
      simp (disch := first | omega | (simp only [lenT]; omega)) only [evSt, ↓evPre, ↓evPreW, evPost, evPostW, evR, evU, seval]
      refine hP.app (rs := [amW x.am, x.ba]) (by simp; omega) fun v' S3 hP3 f3 i3 => ?_
      simp (disch := first | omega | (simp only [lenT]; omega)) only [wrap_i64, hk1, evSt, ↓evPre, ↓evPreW, evPost, evPostW, evR, evU, seval]
      refine ⟨(k + 1, v', S3), ⟨by simp only; omega, ?_⟩, by simp only; omega, .inl ⟨by simp only [calR, ↓evPre, ↓evPreW, evPost, evPostW, evR, evU, seval]; try rfl, rfl⟩⟩
      simp only
      rw [itsW_next hcx]
      unfold itmW
      simp only [List.append_assoc] at hP3 ⊢
      exact hP3
  | none =>
    have hge : c.its.length ≤ k := List.getElem?_eq_none_iff.1 hcx
    have hlt : ¬ ((k : Int) < c.its.length) := by omega
    rw [List.take_of_length_le hge] at hP hilk
    clear hcx hge hk
    have mf := fun S => rmprint_A c.fare hok.fare S
    simp (disch := first | omega | (simp only [lenT]; omega)) only [dF hlt, calR, evSt, ↓evPre, ↓evPreW, evPost, evPostW, evR, evU, seval]
    refine (mf _).then ?_
    simp (disch := first | omega | (simp only [lenT]; omega)) only [evSt, ↓evPre, ↓evPreW, evPost, evPostW, evR, evU, seval]
    refine hP.app (rs := [faW, amW c.fare]) (by simp; omega) fun v' S3 hP3 f3 i3 => ?_
    simp (disch := first | omega | (simp only [lenT]; omega)) only [evSt, ↓evPre, ↓evPreW, evPost, evPostW, evR, evU, seval]
    refine loopF (ι := Nat × V × Store) (fun i => [(1, .cptr (calR c)), (5, i.2.1), (9, .int .i64 i.1)]) (fun i => i.2.2)
      (fun i => i.1 ≤ c.txs.length ∧ PrS S ((([c0] ++ itsW c.its) ++ [faW, amW c.fare]) ++ txsW (c.txs.take i.1)) i.2.1 i.2.2) (fun i => c.txs.length - i.1)
      (fun i hi => by rw [hσ]; exact hi.2.len) (0, v', S3) ⟨Nat.zero_le _, by simpa [txsW] using hP3⟩ (.inl ⟨?_, rfl⟩) ?_
    · simp only [calR, ↓evPre, ↓evPreW, evPost, evPostW, evR, evU, seval]
      try rfl
    clear hP hP3 f3 i3 v' S3 hlt k v S1
    rintro ⟨k, v, S1⟩ ⟨hk, hP⟩
    simp only at hk hP ⊢
    have htlk := htl k
    cases hcx : c.txs[k]? with
    | some x =>
      have hlt' := (List.getElem?_eq_some_iff.1 hcx).1
      have hlt : ((k : Int) < c.txs.length) := by omega
      have hk1 : (k : Int) + 1 = ((k + 1 : Nat) : Int) := by omega
      have hx := ht x (List.mem_of_getElem? hcx)
      have mp := fun S => rmprint_A x.am hx.2 S
      simp (disch := first | omega | (simp only [lenT]; omega)) only [dT hlt, hcx, chgR, calR, evSt, ↓evPre, ↓evPreW, evPost, evPostW, evR, evU, seval]
      refine exD.intro (mp _) ?_
      simp (disch := first | omega | (simp only [lenT]; omega)) only [evSt, ↓evPre, ↓evPreW, evPost, evPostW, evR, evU, seval]
      refine hP.app (rs := [txW, x.co, amW x.am]) (by simp; omega) fun v' S3 hP3 f3 i3 => ?_
      simp (disch := first | omega | (simp only [lenT]; omega)) only [wrap_i64, hk1, evSt, ↓evPre, ↓evPreW, evPost, evPostW, evR, evU, seval]
      refine ⟨(k + 1, v', S3), ⟨by simp only; omega, ?_⟩, by simp only; omega, .inl ⟨by simp only [calR, ↓evPre, ↓evPreW, evPost, evPostW, evR, evU, seval]; try rfl, rfl⟩⟩
      simp only
      rw [txsW_next hcx]
      unfold chgW
      simp only [List.append_assoc] at hP3 ⊢
      exact hP3
    | none =>
      have hge : c.txs.length ≤ k := List.getElem?_eq_none_iff.1 hcx
      have hlt : ¬ ((k : Int) < c.txs.length) := by omega
      rw [List.take_of_length_le hge] at hP htlk
      have mt := fun S => rmprint_A c.tot hok.tot S
      simp (disch := first | omega | (simp only [lenT]; omega)) only [dF hlt, calR, evSt, ↓evPre, ↓evPreW, evPost, evPostW, evR, evU, seval]
      refine (mt _).then ?_
      simp (disch := first | omega | (simp only [lenT]; omega)) only [evSt, ↓evPre, ↓evPreW, evPost, evPostW, evR, evU, seval]
      refine hP.app (rs := [toW, amW c.tot]) (by simp; omega) fun v' S3 hP3 f3 i3 => ?_
      simp (disch := first | omega | (simp only [lenT]; omega)) only [evSt, ↓evPre, ↓evPreW, evPost, evPostW, evR, evU, seval]
      rw [← hpr] at hP3
      have hwl : ws.length ≤ 3000 := by rw [hpr]; simp; omega
      obtain ⟨T, hT⟩ := hP3.ext
      subst hT
      have hfz : Frz (S ++ T) (S ++ kill T) v' (txSl ws) := by
        rcases hP3.l with ⟨rfl, hr⟩ | ⟨id, ver, h1, rfl, h3⟩
        · unfold txSl; rw [hr]; exact .nil
        · exact .dead (dead_kill h1) h3 rfl (tx_imm ws)
      have hjf : joinF ws = lineF ws := by
        have hm : ws.map wq = ws.map id := List.map_congr_left fun t ht => if_pos (hwd t ht).1
        unfold joinF
        rw [hm, List.map_id]
      have rj := rjoin_A ws (by omega) (fun t ht => by have := (hwd t ht).2; omega) (S ++ kill T)
      rw [hjf] at rj
      refine (CallA.killedL hn (args := [v']) rj ⟨hfz, trivial⟩).mono ?_
      rintro r S4 ⟨rfl, rfl⟩
      simp (disch := first | omega | (simp only [lenT]; omega)) only [evSt, ↓evPre, ↓evPreW, evPost, evPostW, evR, evU, seval]
      exact ⟨_, S, hn.fgt _, .imm rfl, Nat.le_refl _, rfl, rfl⟩
end Go.Proofs.YtkdbghhdklfoiaaDoor
