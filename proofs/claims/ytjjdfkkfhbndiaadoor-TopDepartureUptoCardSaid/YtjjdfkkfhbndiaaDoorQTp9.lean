/- Departure: the law, walked in stages. -/
import Derived.Test.YtjjdfkkfhbndiaaDoorQTp5
import Derived.Test.YtjjdfkkfhbndiaaDoorQTp7
import Derived.Test.YtjjdfkkfhbndiaaDoorQTp8
import Derived.Test.YtjjdfkkfhbndiaaDoorQCkChk5
import Derived.Test.YtjjdfkkfhbndiaaDoorQAlM
namespace Go.Proofs.YtjjdfkkfhbndiaaDoor
open Go Go.AL
set_option linter.unusedSectionVars false
variable [Go.AL.Mode] [Go.AL.LooseM]
set_option linter.unusedSimpArgs false
set_option linter.unusedVariables false
structure AE (ca : List St.Sea) (cl : List St.Clm) (gs : List Ck.Gst) (bs : List Bg) (bo : List Int) (E : Env) : Prop where
  e0 : E.get 0 = .sl 3 (ca.map St.seaR)
  e1 : E.get 1 = .sl 4 (cl.map St.clmR)
  e2 : E.get 2 = .sl 3 (gs.map Ck.gstR)
  e3 : E.get 3 = .sl 3 (bs.map bgR)
  e4 : E.get 4 = .sl 1 (bo.map nI)
theorem load_len (g : Gat) (b : Bg) : (loadF g b).1.bags.length ≤ g.bags.length + 1 := by
  unfold loadF
  split
  · exact Nat.le_succ _
  · split
    · exact Nat.le_succ _
    · simp
theorem board_bags (g : Gat) (t : Int) : (boardF g t).1.bags = g.bags := by
  unfold boardF
  split
  · rfl
  · split <;> rfl
theorem GAt.low {S : Store} {a b : Nat} {full : Bool} {cl : Bool} {g : Gat} {S' : Store} (h : GAt S a b cl full g S') : GAt S a b cl false g S' := by
  obtain ⟨bv, hg, hb⟩ := h.gate
  refine ⟨h.ext, h.la, h.lb, h.ne, ⟨bv, hg, ?_⟩, h.abO⟩
  rcases hb with hb | ⟨c, ver, rows, k1, k2, k3, k4, k5, k6, k7⟩
  · exact .inl hb
  · exact .inr ⟨c, ver, rows, k1, k2, k3, k4, k5, k6, fun e => by cases e⟩
theorem accept_parts (gs : List Ck.Gst) (n : Nat) : ∃ l m : List Nat, (l.length ≤ n ∧ l.length + m.length = gs.length ∧ ∀ i ∈ l, i < gs.length) ∧ Ck.oSl ((Ck.orderF gs).take (Ck.nSeats gs n)) = .sl 1 (l.map Ck.nR) ∧ Ck.oSl ((Ck.orderF gs).drop (Ck.nSeats gs n)) = .sl 1 (m.map Ck.nR) := by
  have hp := (Ck.orderF_spec gs).1
  have hl : (Ck.orderF gs).length = gs.length := by have := hp.length_eq; simpa using this
  refine ⟨_, _, ⟨?_, ?_, fun i hi => ?_⟩, rfl, rfl⟩
  · rw [List.length_take]
    unfold Ck.nSeats
    omega
  · rw [← List.length_append, List.take_append_drop, hl]
  · exact List.mem_range.1 (hp.mem_iff.1 (List.mem_of_mem_take hi))
set_option maxHeartbeats 8000000 in
set_option maxRecDepth 20000 in
theorem law_A (ca : List St.Sea) (cl : List St.Clm) (gs : List Ck.Gst) (bs : List Bg) (bo : List Int) (S : Store) : CallA Tryd.prog 3 [.sl 3 (ca.map St.seaR), .sl 4 (cl.map St.clmR), .sl 3 (gs.map Ck.gstR), .sl 3 (bs.map bgR), .sl 1 (bo.map nI)] S fun r S' => r = .bool true ∧ S' = S := by
  refine CallA.withNeat Tryd.func3 c7003 fun hn => ?_
  refine CallA.fin Tryd.func3 c7003 (Nat.le_of_ble_eq_true rfl) fun σ hσ => ?_
  have aw := awake_A
  simp only [a7003]
  refine stageA (fun E S' => AE ca cl gs bs bo E ∧ S' = S) ?_ ?_
  · intro K hK
    simp (disch := first | omega | (simp only [lenT]; omega)) only [evSt, ↓evPre, ↓evPreW, evPost, evPostW, evR, evU, seval]
    exact hK _ _ ⟨⟨rfl, rfl, rfl, rfl, rfl⟩, rfl⟩
  rintro E S2 ⟨⟨e0, e1, e2, e3, e4⟩, hS2⟩
  rw [hS2]
  clear hS2 S2
  refine stageA (fun E S' => AE ca cl gs bs bo E ∧ (ca.length ≤ 12 ∧ gs.length ≤ 8 ∧ cl.length = gs.length ∧ bs.length ≤ 8 ∧ bo.length ≤ 12) ∧ S' = S) ?_ ?_
  · intro K hK
    by_cases h0 : (12 : Int) < (ca.length : Nat)
    · simp (disch := first | omega | (simp only [lenT]; omega)) only [e0, dT h0, evSt, ↓evPre, ↓evPreW, evPost, evPostW, evR, evU, seval]
      refine (aw _).then ?_
      simp (disch := first | omega | (simp only [lenT]; omega)) only [evSt, ↓evPre, ↓evPreW, evPost, evPostW, evR, evU, seval]
      exact ⟨_, S, hn.self, .imm rfl, Nat.le_refl _, rfl, rfl⟩
    by_cases h2 : (8 : Int) < (gs.length : Nat)
    · simp (disch := first | omega | (simp only [lenT]; omega)) only [e0, e2, dF h0, dT h2, evSt, ↓evPre, ↓evPreW, evPost, evPostW, evR, evU, seval]
      refine (aw _).then ?_
      simp (disch := first | omega | (simp only [lenT]; omega)) only [evSt, ↓evPre, ↓evPreW, evPost, evPostW, evR, evU, seval]
      exact ⟨_, S, hn.self, .imm rfl, Nat.le_refl _, rfl, rfl⟩
    by_cases h1 : ((cl.length : Nat) : Int) = (gs.length : Nat)
    case neg =>
      simp (disch := first | omega | (simp only [lenT]; omega)) only [e0, e1, e2, dF h0, dF h2, dF h1, Bool.not_false, evSt, ↓evPre, ↓evPreW, evPost, evPostW, evR, evU, seval]
      refine (aw _).then ?_
      simp (disch := first | omega | (simp only [lenT]; omega)) only [evSt, ↓evPre, ↓evPreW, evPost, evPostW, evR, evU, seval]
      exact ⟨_, S, hn.self, .imm rfl, Nat.le_refl _, rfl, rfl⟩
    by_cases h3 : (8 : Int) < (bs.length : Nat)
    · simp (disch := first | omega | (simp only [lenT]; omega)) only [e0, e1, e2, e3, dF h0, dF h2, dT h1, dT h3, Bool.not_true, evSt, ↓evPre, ↓evPreW, evPost, evPostW, evR, evU, seval]
      refine (aw _).then ?_
      simp (disch := first | omega | (simp only [lenT]; omega)) only [evSt, ↓evPre, ↓evPreW, evPost, evPostW, evR, evU, seval]
      exact ⟨_, S, hn.self, .imm rfl, Nat.le_refl _, rfl, rfl⟩
    by_cases h4 : (12 : Int) < (bo.length : Nat)
    · simp (disch := first | omega | (simp only [lenT]; omega)) only [e0, e1, e2, e3, e4, dF h0, dF h2, dT h1, dF h3, dT h4, Bool.not_true, evSt, ↓evPre, ↓evPreW, evPost, evPostW, evR, evU, seval]
      refine (aw _).then ?_
      simp (disch := first | omega | (simp only [lenT]; omega)) only [evSt, ↓evPre, ↓evPreW, evPost, evPostW, evR, evU, seval]
      exact ⟨_, S, hn.self, .imm rfl, Nat.le_refl _, rfl, rfl⟩
    simp (disch := first | omega | (simp only [lenT]; omega)) only [e0, e1, e2, e3, e4, dF h0, dF h2, dT h1, dF h3, dF h4, Bool.not_true, evSt, ↓evPre, ↓evPreW, evPost, evPostW, evR, evU, seval]
    have ck := St.check_A ca S (by omega)
    simp only [St.seSl] at ck
    refine ck.mono ?_
    rintro _ S2 ⟨rows, rfl, hrl, hS2⟩
    rw [hS2]
    clear hS2 S2
    by_cases h5 : (0 : Int) < (rows.length : Nat)
    · simp (disch := first | omega | (simp only [lenT]; omega)) only [dT h5, evSt, ↓evPre, ↓evPreW, evPost, evPostW, evR, evU, seval]
      refine (aw _).then ?_
      simp (disch := first | omega | (simp only [lenT]; omega)) only [evSt, ↓evPre, ↓evPreW, evPost, evPostW, evR, evU, seval]
      exact ⟨_, S, hn.self, .imm rfl, Nat.le_refl _, rfl, rfl⟩
    simp (disch := first | omega | (simp only [lenT]; omega)) only [dF h5, evSt, ↓evPre, ↓evPreW, evPost, evPostW, evR, evU, seval]
    exact hK _ _ ⟨⟨e0, e1, e2, e3, e4⟩, by omega, rfl⟩
  clear e0 e1 e2 e3 e4
  rintro E S2 ⟨⟨e0, e1, e2, e3, e4⟩, ⟨l0, l2, l1, l3, l4⟩, hS2⟩
  rw [hS2]
  clear hS2 S2
  obtain ⟨il, ol, ⟨hil, hol, him⟩, hi1, hi2⟩ := accept_parts gs ca.length
  have ac := fun S => Ck.accept_A gs (ca.length : Nat) S (by omega)
  rw [hi1, hi2] at ac
  simp only [Ck.gSl] at ac
  clear hi1 hi2
  refine stageA (fun E S' => AE ca cl gs bs bo E ∧ (E.get 11 = .sl 1 (il.map Ck.nR) ∧ E.get 12 = .sl 1 (ol.map Ck.nR)) ∧ S' = S) ?_ ?_
  · intro K hK
    simp (disch := first | omega | (simp only [lenT]; omega)) only [e0, e2, evSt, ↓evPre, ↓evPreW, evPost, evPostW, evR, evU, seval]
    refine (ac S).then ?_
    simp (disch := first | omega | (simp only [lenT]; omega)) only [evSt, ↓evPre, ↓evPreW, evPost, evPostW, evR, evU, seval]
    exact hK _ _ ⟨⟨e0, e1, e2, e3, e4⟩, ⟨rfl, rfl⟩, rfl⟩
  clear e0 e1 e2 e3 e4 ac
  rintro E S2 ⟨⟨e0, e1, e2, e3, e4⟩, ⟨e11, e12⟩, hS2⟩
  rw [hS2]
  clear hS2 S2
  refine stageA (fun E S' => AE ca cl gs bs bo E ∧ E.get 11 = .sl 1 (il.map Ck.nR) ∧ S' = S) ?_ ?_
  · intro K hK
    have q1 : ((il.length : Nat) : Int) + (ol.length : Nat) = (gs.length : Nat) := by omega
    have q2 : ¬ ((ca.length : Nat) : Int) < (il.length : Nat) := by omega
    simp (disch := first | omega | (simp only [lenT]; omega)) only [e0, e2, e11, e12, wrap_i64, dT q1, dF q2, Bool.not_true, evSt, ↓evPre, ↓evPreW, evPost, evPostW, evR, evU, seval]
    exact hK _ _ ⟨⟨e0, e1, e2, e3, e4⟩, e11, rfl⟩
  clear e0 e1 e2 e3 e4 e11 e12
  rintro E S2 ⟨⟨e0, e1, e2, e3, e4⟩, e11, hS2⟩
  rw [hS2]
  clear hS2 S2
  refine stageA (fun E S' => AE ca cl gs bs bo E ∧ (E.get 11 = .sl 1 (il.map Ck.nR) ∧ E.get 13 = .nilSl) ∧ S' = S) ?_ ?_
  · intro K hK
    simp (disch := first | omega | (simp only [lenT]; omega)) only [evSt, ↓evPre, ↓evPreW, evPost, evPostW, evR, evU, seval]
    exact hK _ _ ⟨⟨e0, e1, e2, e3, e4⟩, ⟨e11, rfl⟩, rfl⟩
  clear e0 e1 e2 e3 e4 e11
  rintro E S2 ⟨⟨e0, e1, e2, e3, e4⟩, ⟨e11, e13⟩, hS2⟩
  rw [hS2]
  clear hS2 S2
  refine stageA (fun E S' => AE ca cl gs bs bo E ∧ (E.get 11 = .sl 1 (il.map Ck.nR) ∧ E.get 13 = .nilSl ∧ E.get 14 = .nilSl ∧ E.get 15 = .nilSl) ∧ S' = S) ?_ ?_
  · intro K hK
    simp (disch := first | omega | (simp only [lenT]; omega)) only [evSt, ↓evPre, ↓evPreW, evPost, evPostW, evR, evU, seval]
    exact hK _ _ ⟨⟨e0, e1, e2, e3, e4⟩, ⟨e11, e13, rfl, rfl⟩, rfl⟩
  clear e0 e1 e2 e3 e4 e11 e13
  rintro E S2 ⟨⟨e0, e1, e2, e3, e4⟩, ⟨e11, e13, e14, e15⟩, hS2⟩
  rw [hS2]
  clear hS2 S2
  refine stageA (fun E S' => AE ca cl gs bs bo E ∧ (∃ own : List St.Clm, own.length = il.length ∧ E.get 11 = .sl 1 (il.map Ck.nR) ∧ E.get 13 = .sl 4 (own.map St.clmR) ∧ E.get 14 = .nilSl ∧ E.get 15 = .nilSl) ∧ S' = S) ?_ ?_
  · intro K hK
    simp (disch := first | omega | (simp only [lenT]; omega)) only [evSt, ↓evPre, ↓evPreW, evPost, evPostW, evR, evU, seval]
    refine loopF (ι := Nat × List St.Clm × V × Store) (fun i => [(0, .sl 3 (ca.map St.seaR)), (1, .sl 4 (cl.map St.clmR)), (2, .sl 3 (gs.map Ck.gstR)), (3, .sl 3 (bs.map bgR)), (4, .sl 1 (bo.map nI)), (11, .sl 1 (il.map Ck.nR)), (13, i.2.2.1), (14, .nilSl), (15, .nilSl), (16, .int .i64 (i.1 : Nat))]) (fun i => i.2.2.2)
      (fun i => i.1 ≤ il.length ∧ i.2.1.length = i.1 ∧ (∃ T, i.2.2.2 = S ++ T) ∧ (i.1 < il.length → LG S 33 4 (i.2.1.map St.clmR) i.2.2.1 i.2.2.2) ∧ (i.1 = il.length → i.2.2.1 = .sl 4 (i.2.1.map St.clmR) ∧ i.2.2.2 = S)) (fun i => il.length - i.1)
      (fun i hi => by rw [hσ]; obtain ⟨T, hT⟩ := hi.2.2.1; rw [hT]; simp) (0, [], if il.length = 0 then .sl 4 [] else .nilSl, S) ⟨Nat.zero_le _, rfl, ⟨[], by simp⟩, fun h => by rw [if_neg (by simp only at h; omega)]; exact LG.nil0, fun h => by rw [if_pos h.symm]; exact ⟨rfl, rfl⟩⟩ ?_ ?_
    · by_cases hz : il.length = 0
      · refine .inr ⟨hn.self, ?_⟩
        rw [if_pos hz]
        simp only [subF, e0, e1, e2, e3, e4, e11, e13, e14, e15, ↓evPre, ↓evPreW, evPost, evPostW, evR, evU, seval]
        exact ⟨.imm rfl, .imm rfl, .imm rfl, .imm rfl, .imm rfl, .imm rfl, .nil, .imm rfl, .imm rfl, .imm rfl⟩
      · refine .inl ⟨?_, rfl⟩
        rw [if_neg hz]
        simp only [e0, e1, e2, e3, e4, e11, e13, e14, e15, ↓evPre, ↓evPreW, evPost, evPostW, evR, evU, seval]
        try rfl
    clear e0 e1 e2 e3 e4 e11 e13 e14 e15
    rintro ⟨k, own, v, S1⟩ ⟨hk, hol2, ⟨T, hT⟩, hg, hfr⟩
    simp only at hk hol2 hT hg hfr ⊢
    by_cases hkn : k < il.length
    · have hg := hg hkn
      have hlt : (k : Int) < (il.length : Nat) := by omega
      have hk1 : (k : Int) + 1 = ((k + 1 : Nat) : Int) := by omega
      obtain ⟨j, hj⟩ : ∃ j, il[k]? = some j := ⟨_, List.getElem?_eq_getElem hkn⟩
      have hjl := him j (List.mem_of_getElem? hj)
      obtain ⟨c, hc⟩ : ∃ c, cl[j]? = some c := ⟨_, List.getElem?_eq_getElem (by omega)⟩
      have q1 : ¬ ((j : Nat) : Int) < 0 := by omega
      have q2 : ¬ ((cl.length : Nat) : Int) ≤ (j : Nat) := by omega
      simp (disch := first | omega | (simp only [lenT]; omega)) only [dT hlt, hj, hc, Ck.nR, St.clmR, dF q1, dF q2, evSt, ↓evPre, ↓evPreW, evPost, evPostW, evR, evU, seval]
      refine hg.app (by simp; omega) fun v' S2 h2 => ?_
      simp (disch := first | omega | (simp only [lenT]; omega)) only [wrap_i64, hk1, evSt, ↓evPre, ↓evPreW, evPost, evPostW, evR, evU, seval]
      rw [show own.map St.clmR ++ [[.int .i64 c.tic, .int .i64 c.need, .int .i64 c.avoid, .int .i64 c.rank]] = (own ++ [c]).map St.clmR by simp [St.clmR]] at h2
      by_cases hlast : k + 1 = il.length
      · have hfin := h2.fin hn (clm_all _)
        exact ⟨(k + 1, own ++ [c], .sl 4 ((own ++ [c]).map St.clmR), S), ⟨by simp only; omega, by simp; omega, ⟨[], by simp⟩, fun h => by simp only at h; omega, fun _ => ⟨rfl, rfl⟩⟩, by simp only; omega, .inr ⟨hfin.1, by simp only [subF, ↓evPre, ↓evPreW, evPost, evPostW, evR, evU, seval]; exact ⟨.imm rfl, .imm rfl, .imm rfl, .imm rfl, .imm rfl, .imm rfl, hfin.2, .imm rfl, .imm rfl, .imm rfl⟩⟩⟩
      · exact ⟨(k + 1, own ++ [c], v', S2), ⟨by simp only; omega, by simp; omega, h2.ext, fun _ => h2, fun h => by simp only at h; omega⟩, by simp only; omega, .inl ⟨by simp only [Ck.nR, St.clmR, ↓evPre, ↓evPreW, evPost, evPostW, evR, evU, seval]; try rfl, rfl⟩⟩
    · obtain ⟨rfl, rfl⟩ := hfr (by omega)
      have hlt : ¬ (k : Int) < (il.length : Nat) := by omega
      simp (disch := first | omega | (simp only [lenT]; omega)) only [dF hlt, evSt, ↓evPre, ↓evPreW, evPost, evPostW, evR, evU, seval]
      exact hK _ _ ⟨⟨rfl, rfl, rfl, rfl, rfl⟩, ⟨own, by omega, rfl, rfl, rfl, rfl⟩, rfl⟩
  clear e0 e1 e2 e3 e4 e11 e13 e14 e15
  rintro E S2 ⟨⟨e0, e1, e2, e3, e4⟩, ⟨own, how, e11, e13, e14, e15⟩, hS2⟩
  rw [hS2]
  clear hS2 S2
  have hsl : (St.assignF ca own).length = il.length := by rw [St.assign_len, how]
  have hsb : ∀ (i : Nat) (x : Int), (St.assignF ca own)[i]? = some x → x < ca.length := fun i x h => assign_bound ca own h
  have asg : ∀ S, CallA Tryd.prog 7 [.sl 3 (ca.map St.seaR), .sl 4 (own.map St.clmR)] S fun r S' => r = .sl 1 ((St.assignF ca own).map nI) ∧ S' = S := fun S => St.assign_A ca own S (by omega) (by omega)
  have va : ∀ S, CallA Tryd.prog 8 [.sl 3 (ca.map St.seaR), .sl 4 (own.map St.clmR), .sl 1 ((St.assignF ca own).map nI)] S fun r S' => r = .bool true ∧ S' = S := fun S => by
    have := St.valid_A ca own (St.assignF ca own) S (by omega) (by omega)
    rw [St.assign_valid] at this
    exact this
  have mo : ∀ S, CallA Tryd.prog 9 [.sl 3 (ca.map St.seaR), .sl 4 (own.map St.clmR)] S fun r S' => r = .int .i64 (St.cntF (St.assignF ca own) : Nat) ∧ S' = S := fun S => St.most_A ca own S (by omega) (by omega)
  generalize St.assignF ca own = st at hsl hsb asg va mo
  refine stageA (fun E S' => AE ca cl gs bs bo E ∧ (E.get 11 = .sl 1 (il.map Ck.nR) ∧ E.get 13 = .sl 4 (own.map St.clmR) ∧ E.get 14 = .nilSl ∧ E.get 15 = .nilSl ∧ E.get 17 = .sl 1 (st.map nI)) ∧ S' = S) ?_ ?_
  · intro K hK
    simp (disch := first | omega | (simp only [lenT]; omega)) only [e0, e13, evSt, ↓evPre, ↓evPreW, evPost, evPostW, evR, evU, seval]
    refine (asg S).then ?_
    simp (disch := first | omega | (simp only [lenT]; omega)) only [evSt, ↓evPre, ↓evPreW, evPost, evPostW, evR, evU, seval]
    exact hK _ _ ⟨⟨e0, e1, e2, e3, e4⟩, ⟨e11, e13, e14, e15, rfl⟩, rfl⟩
  clear e0 e1 e2 e3 e4 e11 e13 e14 e15 asg
  rintro E S2 ⟨⟨e0, e1, e2, e3, e4⟩, ⟨e11, e13, e14, e15, e17⟩, hS2⟩
  rw [hS2]
  clear hS2 S2
  refine stageA (fun E S' => AE ca cl gs bs bo E ∧ (E.get 11 = .sl 1 (il.map Ck.nR) ∧ E.get 13 = .sl 4 (own.map St.clmR) ∧ E.get 14 = .nilSl ∧ E.get 15 = .nilSl ∧ E.get 17 = .sl 1 (st.map nI)) ∧ S' = S) ?_ ?_
  · intro K hK
    have q1 : ((st.length : Nat) : Int) = (own.length : Nat) := by omega
    simp (disch := first | omega | (simp only [lenT]; omega)) only [e0, e13, e17, evSt, ↓evPre, ↓evPreW, evPost, evPostW, evR, evU, seval]
    refine (va S).then ?_
    simp (disch := first | omega | (simp only [lenT]; omega)) only [e13, e17, dT q1, Bool.not_true, evSt, ↓evPre, ↓evPreW, evPost, evPostW, evR, evU, seval]
    exact hK _ _ ⟨⟨e0, e1, e2, e3, e4⟩, ⟨e11, e13, e14, e15, e17⟩, rfl⟩
  clear e0 e1 e2 e3 e4 e11 e13 e14 e15 e17 va
  rintro E S2 ⟨⟨e0, e1, e2, e3, e4⟩, ⟨e11, e13, e14, e15, e17⟩, hS2⟩
  rw [hS2]
  clear hS2 S2
  refine stageA (fun E S' => AE ca cl gs bs bo E ∧ (∃ tk rs : List Int, (tk.length = St.cntF st ∧ rs.length = St.cntF st) ∧ E.get 13 = .sl 4 (own.map St.clmR) ∧ E.get 14 = .sl 1 (tk.map nI) ∧ E.get 15 = .sl 1 (rs.map nI)) ∧ S' = S) ?_ ?_
  · intro K hK
    simp (disch := first | omega | (simp only [lenT]; omega)) only [evSt, ↓evPre, ↓evPreW, evPost, evPostW, evR, evU, seval]
    refine loopF (ι := Nat × (List Int × List Int) × (V × V) × Store) (fun i => [(0, .sl 3 (ca.map St.seaR)), (1, .sl 4 (cl.map St.clmR)), (2, .sl 3 (gs.map Ck.gstR)), (3, .sl 3 (bs.map bgR)), (4, .sl 1 (bo.map nI)), (11, .sl 1 (il.map Ck.nR)), (13, .sl 4 (own.map St.clmR)), (14, i.2.2.1.1), (15, i.2.2.1.2), (17, .sl 1 (st.map nI)), (18, .int .i64 (i.1 : Nat))]) (fun i => i.2.2.2)
      (fun i => i.1 ≤ st.length ∧ (i.2.1.1.length = St.cntF (st.take i.1) ∧ i.2.1.2.length = St.cntF (st.take i.1)) ∧ (∃ T, i.2.2.2 = S ++ T) ∧ (i.1 < st.length → LG2 S 3 1 (i.2.1.1.map nI) i.2.2.1.1 3 1 (i.2.1.2.map nI) i.2.2.1.2 i.2.2.2) ∧ (i.1 = st.length → (i.2.2.1.1 = .sl 1 (i.2.1.1.map nI) ∧ i.2.2.1.2 = .sl 1 (i.2.1.2.map nI)) ∧ i.2.2.2 = S)) (fun i => st.length - i.1)
      (fun i hi => by rw [hσ]; obtain ⟨T, hT⟩ := hi.2.2.1; rw [hT]; simp) (0, ([], []), (if st.length = 0 then (.sl 1 [], .sl 1 []) else (.nilSl, .nilSl)), S) ⟨Nat.zero_le _, ⟨rfl, rfl⟩, ⟨[], by simp⟩, fun h => by rw [if_neg (by simp only at h; omega)]; exact ⟨LG.nil0, LG.nil0, fun _ _ _ _ _ _ _ _ e => by cases e⟩, fun h => by rw [if_pos h.symm]; exact ⟨⟨rfl, rfl⟩, rfl⟩⟩ ?_ ?_
    · by_cases hz : st.length = 0
      · refine .inr ⟨hn.self, ?_⟩
        rw [if_pos hz]
        simp only [subF, e0, e1, e2, e3, e4, e11, e13, e14, e15, e17, ↓evPre, ↓evPreW, evPost, evPostW, evR, evU, seval]
        exact ⟨.imm rfl, .imm rfl, .imm rfl, .imm rfl, .imm rfl, .imm rfl, .imm rfl, .nil, .nil, .imm rfl, .imm rfl⟩
      · refine .inl ⟨?_, rfl⟩
        rw [if_neg hz]
        simp only [e0, e1, e2, e3, e4, e11, e13, e14, e15, e17, ↓evPre, ↓evPreW, evPost, evPostW, evR, evU, seval]
        try rfl
    clear e0 e1 e2 e3 e4 e11 e13 e14 e15 e17
    rintro ⟨k, ⟨tk, rs⟩, ⟨v, u⟩, S1⟩ ⟨hk, ⟨hl1, hl2⟩, ⟨T, hT⟩, hg, hfr⟩
    simp only at hk hl1 hl2 hT hg hfr ⊢
    by_cases hkn : k < st.length
    · have hg := hg hkn
      have hlt : (k : Int) < (st.length : Nat) := by omega
      have hk1 : (k : Int) + 1 = ((k + 1 : Nat) : Int) := by omega
      obtain ⟨x, hx⟩ : ∃ x, st[k]? = some x := ⟨_, List.getElem?_eq_getElem hkn⟩
      obtain ⟨j, hj⟩ : ∃ j, il[k]? = some j := ⟨_, List.getElem?_eq_getElem (by omega)⟩
      have hjl := him j (List.mem_of_getElem? hj)
      obtain ⟨c, hc⟩ : ∃ c, gs[j]? = some c := ⟨_, List.getElem?_eq_getElem hjl⟩
      have hct := St.cnt_take hx
      have hcl : St.cntF (st.take k) ≤ k := by
        unfold St.cntF
        exact Nat.le_trans (List.length_filter_le _ _) (by rw [List.length_take]; omega)
      by_cases q0 : (0 : Int) ≤ x
      · obtain ⟨m, rfl⟩ := Int.eq_ofNat_of_zero_le q0
        have hm := hsb k _ hx
        have q1 : ((m : Nat) : Int) < (ca.length : Nat) := hm
        obtain ⟨s, hs⟩ : ∃ s, ca[m]? = some s := ⟨_, List.getElem?_eq_getElem (by omega)⟩
        rw [if_pos q0] at hct
        simp (disch := first | omega | (simp only [lenT]; omega)) only [dT hlt, hx, hj, hc, hs, nI, Ck.nR, Ck.gstR, St.seaR, dT q0, dT q1, evSt, ↓evPre, ↓evPreW, evPost, evPostW, evR, evU, seval]
        refine hg.app (by simp; omega) fun v' S2 h2 => ?_
        simp (disch := first | omega | (simp only [lenT]; omega)) only [hx, hs, nI, St.seaR, evSt, ↓evPre, ↓evPreW, evPost, evPostW, evR, evU, seval]
        refine h2.symm.app (by simp; omega) fun u' S3 h3 => ?_
        simp (disch := first | omega | (simp only [lenT]; omega)) only [wrap_i64, hk1, evSt, ↓evPre, ↓evPreW, evPost, evPostW, evR, evU, seval]
        rw [show rs.map nI ++ [[.int .i64 s.row]] = (rs ++ [s.row]).map nI by simp [nI], show tk.map nI ++ [[.int .i64 c.tic]] = (tk ++ [c.tic]).map nI by simp [nI]] at h3
        by_cases hlast : k + 1 = st.length
        · have hfin := h3.b.fin hn (nI_all _)
          have hfin2 := h3.a.fin hn (nI_all _)
          exact ⟨(k + 1, (tk ++ [c.tic], rs ++ [s.row]), (.sl 1 ((tk ++ [c.tic]).map nI), .sl 1 ((rs ++ [s.row]).map nI)), S), ⟨by simp only; omega, ⟨by simp only [List.length_append, List.length_singleton]; omega, by simp only [List.length_append, List.length_singleton]; omega⟩, ⟨[], by simp⟩, fun h => by simp only at h; omega, fun _ => ⟨⟨rfl, rfl⟩, rfl⟩⟩, by simp only; omega, .inr ⟨hfin.1, by simp only [subF, ↓evPre, ↓evPreW, evPost, evPostW, evR, evU, seval]; exact ⟨.imm rfl, .imm rfl, .imm rfl, .imm rfl, .imm rfl, .imm rfl, .imm rfl, hfin.2, hfin2.2, .imm rfl, .imm rfl⟩⟩⟩
        · exact ⟨(k + 1, (tk ++ [c.tic], rs ++ [s.row]), (v', u'), S3), ⟨by simp only; omega, ⟨by simp only [List.length_append, List.length_singleton]; omega, by simp only [List.length_append, List.length_singleton]; omega⟩, h3.a.ext, fun _ => h3.symm, fun h => by simp only at h; omega⟩, by simp only; omega, .inl ⟨by simp only [nI, Ck.nR, Ck.gstR, St.seaR, ↓evPre, ↓evPreW, evPost, evPostW, evR, evU, seval]; try rfl, rfl⟩⟩
      · rw [if_neg q0] at hct
        simp (disch := first | omega | (simp only [lenT]; omega)) only [dT hlt, hx, nI, dF q0, wrap_i64, hk1, evSt, ↓evPre, ↓evPreW, evPost, evPostW, evR, evU, seval]
        by_cases hlast : k + 1 = st.length
        · have hfin := hg.a.fin hn (nI_all _)
          have hfin2 := hg.b.fin hn (nI_all _)
          exact ⟨(k + 1, (tk, rs), (.sl 1 (tk.map nI), .sl 1 (rs.map nI)), S), ⟨by simp only; omega, ⟨by simp only; omega, by simp only; omega⟩, ⟨[], by simp⟩, fun h => by simp only at h; omega, fun _ => ⟨⟨rfl, rfl⟩, rfl⟩⟩, by simp only; omega, .inr ⟨hfin.1, by simp only [subF, ↓evPre, ↓evPreW, evPost, evPostW, evR, evU, seval]; exact ⟨.imm rfl, .imm rfl, .imm rfl, .imm rfl, .imm rfl, .imm rfl, .imm rfl, hfin.2, hfin2.2, .imm rfl, .imm rfl⟩⟩⟩
        · exact ⟨(k + 1, (tk, rs), (v, u), S1), ⟨by simp only; omega, ⟨by simp only; omega, by simp only; omega⟩, ⟨T, hT⟩, fun _ => hg, fun h => by simp only at h; omega⟩, by simp only; omega, .inl ⟨by simp only [nI, ↓evPre, ↓evPreW, evPost, evPostW, evR, evU, seval]; try rfl, rfl⟩⟩
    · obtain ⟨⟨rfl, rfl⟩, rfl⟩ := hfr (by omega)
      have hlt : ¬ (k : Int) < (st.length : Nat) := by omega
      rw [List.take_of_length_le (by omega)] at hl1 hl2
      simp (disch := first | omega | (simp only [lenT]; omega)) only [dF hlt, evSt, ↓evPre, ↓evPreW, evPost, evPostW, evR, evU, seval]
      exact hK _ _ ⟨⟨rfl, rfl, rfl, rfl, rfl⟩, ⟨tk, rs, ⟨hl1, hl2⟩, rfl, rfl, rfl⟩, rfl⟩
  clear e0 e1 e2 e3 e4 e11 e13 e14 e15 e17
  rintro E S2 ⟨⟨e0, e1, e2, e3, e4⟩, ⟨tk, rs, ⟨ht1, ht2⟩, e13, e14, e15⟩, hS2⟩
  rw [hS2]
  clear hS2 S2
  have htl : tk.length ≤ 12 := by
    have : St.cntF st ≤ st.length := by
      unfold St.cntF
      exact List.length_filter_le _ _
    omega
  refine stageA (fun E S' => AE ca cl gs bs bo E ∧ (E.get 14 = .sl 1 (tk.map nI) ∧ E.get 15 = .sl 1 (rs.map nI)) ∧ S' = S) ?_ ?_
  · intro K hK
    have q1 : ((tk.length : Nat) : Int) = (St.cntF st : Nat) := by omega
    simp (disch := first | omega | (simp only [lenT]; omega)) only [e0, e13, e14, evSt, ↓evPre, ↓evPreW, evPost, evPostW, evR, evU, seval]
    refine (mo S).then ?_
    simp (disch := first | omega | (simp only [lenT]; omega)) only [dT q1, Bool.not_true, evSt, ↓evPre, ↓evPreW, evPost, evPostW, evR, evU, seval]
    exact hK _ _ ⟨⟨e0, e1, e2, e3, e4⟩, ⟨e14, e15⟩, rfl⟩
  clear e0 e1 e2 e3 e4 e13 e14 e15 mo
  rintro E S2 ⟨⟨e0, e1, e2, e3, e4⟩, ⟨e14, e15⟩, hS2⟩
  rw [hS2]
  clear hS2 S2
  have hco : ∀ (l : List Int) (x : Int) (S : Store), l.length ≤ 999 → CallA Tryd.prog 32 [.sl 1 (l.map nI), .int .i64 x] S fun r S' => r = .bool (l.contains x) ∧ S' = S := fun l x S h => St.contains_A l x S (by omega)
  have nw := new_A tk rs (by omega) (by omega) hco S
  clear hco
  refine stageA (fun E S' => AE ca cl gs bs bo E ∧ E.get 14 = .sl 1 (tk.map nI) ∧ ((∃ e : Int, e ≠ 0 ∧ E.get 20 = .int .i64 e ∧ S' = S) ∨ ∃ a b : Nat, E.get 19 = .ptr b 0 0 0 ∧ E.get 20 = .int .i64 0 ∧ GAt S a b false true ⟨tk, rs, List.replicate tk.length false, []⟩ S')) ?_ ?_
  · intro K hK
    simp (disch := first | omega | (simp only [lenT]; omega)) only [e14, e15, evSt, ↓evPre, ↓evPreW, evPost, evPostW, evR, evU, seval]
    refine nw.mono ?_
    rintro _ S2 (⟨e, rfl, he, hS2⟩ | ⟨a, b, rfl, hg⟩)
    · rw [hS2]
      simp (disch := first | omega | (simp only [lenT]; omega)) only [evSt, ↓evPre, ↓evPreW, evPost, evPostW, evR, evU, seval]
      exact hK _ _ ⟨⟨e0, e1, e2, e3, e4⟩, e14, .inl ⟨e, he, rfl, rfl⟩⟩
    · simp (disch := first | omega | (simp only [lenT]; omega)) only [evSt, ↓evPre, ↓evPreW, evPost, evPostW, evR, evU, seval]
      exact hK _ _ ⟨⟨e0, e1, e2, e3, e4⟩, e14, .inr ⟨a, b, rfl, rfl, hg⟩⟩
  clear e0 e1 e2 e3 e4 e14 e15 nw
  rintro E S2 ⟨⟨e0, e1, e2, e3, e4⟩, e14, h20⟩
  refine stageA (fun E S' => AE ca cl gs bs bo E ∧ E.get 14 = .sl 1 (tk.map nI) ∧ ∃ a b : Nat, E.get 19 = .ptr b 0 0 0 ∧ GAt S a b false true ⟨tk, rs, List.replicate tk.length false, []⟩ S') ?_ ?_
  · intro K hK
    rcases h20 with ⟨e, he, e20, hS2⟩ | ⟨a, b, e19, e20, hg⟩
    · rw [hS2]
      simp (disch := first | omega | (simp only [lenT]; omega)) only [e20, dF he, Bool.not_false, evSt, ↓evPre, ↓evPreW, evPost, evPostW, evR, evU, seval]
      refine (aw _).then ?_
      simp (disch := first | omega | (simp only [lenT]; omega)) only [evSt, ↓evPre, ↓evPreW, evPost, evPostW, evR, evU, seval]
      exact ⟨_, S, hn.self, .imm rfl, Nat.le_refl _, rfl, rfl⟩
    · simp (disch := first | omega | (simp only [lenT]; omega)) only [e20, Bool.not_true, evSt, ↓evPre, ↓evPreW, evPost, evPostW, evR, evU, seval]
      exact hK _ _ ⟨⟨e0, e1, e2, e3, e4⟩, e14, a, b, e19, hg⟩
  clear e0 e1 e2 e3 e4 e14 h20 S2
  rintro E S2 ⟨⟨e0, e1, e2, e3, e4⟩, e14, a, b, e19, hg⟩
  have hok : GOk (⟨tk, rs, List.replicate tk.length false, []⟩ : Gat) bo := ⟨by simp, fun _ h => (by cases h), .nil, fun i t h1 h2 => by
    obtain ⟨_, h3⟩ := List.getElem?_eq_some_iff.1 h2
    simp at h3⟩
  obtain ⟨g0, hg0⟩ : ∃ g0 : Gat, g0 = ⟨tk, rs, List.replicate tk.length false, []⟩ := ⟨_, rfl⟩
  have htk0 : g0.tk = tk := by rw [hg0]
  have hbg0 : g0.bags.length = 0 := by rw [hg0]; rfl
  rw [← hg0] at hg hok
  clear hg0
  refine stageA (fun E S' => AE ca cl gs bs bo E ∧ E.get 14 = .sl 1 (tk.map nI) ∧ E.get 19 = .ptr b 0 0 0 ∧ ∃ g, GAt S a b false true g S' ∧ GOk g bo ∧ g.tk = tk ∧ g.bags.length ≤ 8) ?_ ?_
  · intro K hK
    simp (disch := first | omega | (simp only [lenT]; omega)) only [evSt, ↓evPre, ↓evPreW, evPost, evPostW, evR, evU, seval]
    refine loopA (ι := Nat × Gat × Store) (fun i => [(0, .sl 3 (ca.map St.seaR)), (1, .sl 4 (cl.map St.clmR)), (2, .sl 3 (gs.map Ck.gstR)), (3, .sl 3 (bs.map bgR)), (4, .sl 1 (bo.map nI)), (14, .sl 1 (tk.map nI)), (19, .ptr b 0 0 0), (21, .int .i64 (i.1 : Nat))]) (fun i => i.2.2)
      (fun i => i.1 ≤ bs.length ∧ GAt S a b false true i.2.1 i.2.2 ∧ GOk i.2.1 bo ∧ i.2.1.tk = tk ∧ i.2.1.bags.length ≤ i.1) (fun i => bs.length - i.1) (0, g0, S2) ⟨Nat.zero_le _, hg, hok, htk0, Nat.le_of_eq hbg0⟩ ?_ rfl ?_
    · simp only [e0, e1, e2, e3, e4, e14, e19, ↓evPre, ↓evPreW, evPost, evPostW, evR, evU, seval]
      try rfl
    clear e0 e1 e2 e3 e4 e14 e19 hg hok htk0 hbg0
    rintro ⟨k, g, S1⟩ ⟨hk, hg, hok, htk, hbl⟩
    simp only at hk hg hok htk hbl ⊢
    by_cases hkn : k < bs.length
    · have hlt : (k : Int) < (bs.length : Nat) := by omega
      have hk1 : (k : Int) + 1 = ((k + 1 : Nat) : Int) := by omega
      obtain ⟨x, hx⟩ : ∃ x, bs[k]? = some x := ⟨_, List.getElem?_eq_getElem hkn⟩
      have ld := load_A hg (by omega) (by rw [htk]; omega) x
      simp only [bgR] at ld
      simp (disch := first | omega | (simp only [lenT]; omega)) only [dT hlt, hx, bgR, evSt, ↓evPre, ↓evPreW, evPost, evPostW, evR, evU, seval]
      refine ld.mono ?_
      rintro _ S3 ⟨e, rfl, hg3⟩
      simp (disch := first | omega | (simp only [lenT]; omega)) only [wrap_i64, hk1, evSt, ↓evPre, ↓evPreW, evPost, evPostW, evR, evU, seval]
      obtain ⟨ok3, tk3⟩ := loadF_ok hok x
      have := load_len g x
      exact ⟨(k + 1, (loadF g x).1, S3), ⟨by simp only; omega, hg3, ok3, tk3.trans htk, by simp only; omega⟩, by simp only; omega, by simp only [bgR, ↓evPre, ↓evPreW, evPost, evPostW, evR, evU, seval]; try rfl, rfl⟩
    · have hlt : ¬ (k : Int) < (bs.length : Nat) := by omega
      simp (disch := first | omega | (simp only [lenT]; omega)) only [dF hlt, evSt, ↓evPre, ↓evPreW, evPost, evPostW, evR, evU, seval]
      exact hK _ _ ⟨⟨rfl, rfl, rfl, rfl, rfl⟩, rfl, rfl, g, hg, hok, htk, by omega⟩
  clear e0 e1 e2 e3 e4 e14 e19 hg hok htk0 hbg0 g0 S2
  rintro E S2 ⟨⟨e0, e1, e2, e3, e4⟩, e14, e19, g0, hg, hok, htk0, hbg0⟩
  refine stageA (fun E S' => AE ca cl gs bs bo E ∧ E.get 14 = .sl 1 (tk.map nI) ∧ E.get 19 = .ptr b 0 0 0 ∧ ∃ g, GAt S a b false true g S' ∧ GOk g bo ∧ g.tk = tk ∧ g.bags.length ≤ 8) ?_ ?_
  · intro K hK
    simp (disch := first | omega | (simp only [lenT]; omega)) only [evSt, ↓evPre, ↓evPreW, evPost, evPostW, evR, evU, seval]
    refine loopA (ι := Nat × Gat × Store) (fun i => [(0, .sl 3 (ca.map St.seaR)), (1, .sl 4 (cl.map St.clmR)), (2, .sl 3 (gs.map Ck.gstR)), (3, .sl 3 (bs.map bgR)), (4, .sl 1 (bo.map nI)), (14, .sl 1 (tk.map nI)), (19, .ptr b 0 0 0), (22, .int .i64 (i.1 : Nat))]) (fun i => i.2.2)
      (fun i => i.1 ≤ bo.length ∧ GAt S a b false true i.2.1 i.2.2 ∧ GOk i.2.1 bo ∧ i.2.1.tk = tk ∧ i.2.1.bags.length ≤ 8) (fun i => bo.length - i.1) (0, g0, S2) ⟨Nat.zero_le _, hg, hok, htk0, hbg0⟩ ?_ rfl ?_
    · simp only [e0, e1, e2, e3, e4, e14, e19, ↓evPre, ↓evPreW, evPost, evPostW, evR, evU, seval]
      try rfl
    clear e0 e1 e2 e3 e4 e14 e19 hg hok htk0 hbg0
    rintro ⟨k, g, S1⟩ ⟨hk, hg, hok, htk, hbl⟩
    simp only at hk hg hok htk hbl ⊢
    by_cases hkn : k < bo.length
    · have hlt : (k : Int) < (bo.length : Nat) := by omega
      have hk1 : (k : Int) + 1 = ((k + 1 : Nat) : Int) := by omega
      obtain ⟨x, hx⟩ : ∃ x, bo[k]? = some x := ⟨_, List.getElem?_eq_getElem hkn⟩
      have ld := board_A hg (by rw [htk]; omega) hok.len x
      simp (disch := first | omega | (simp only [lenT]; omega)) only [dT hlt, hx, nI, evSt, ↓evPre, ↓evPreW, evPost, evPostW, evR, evU, seval]
      refine ld.mono ?_
      rintro _ S3 ⟨e, rfl, hg3⟩
      simp (disch := first | omega | (simp only [lenT]; omega)) only [wrap_i64, hk1, evSt, ↓evPre, ↓evPreW, evPost, evPostW, evR, evU, seval]
      obtain ⟨ok3, tk3⟩ := boardF_ok hok x (List.mem_of_getElem? hx)
      exact ⟨(k + 1, (boardF g x).1, S3), ⟨by simp only; omega, hg3, ok3, tk3.trans htk, by simp only [board_bags]; omega⟩, by simp only; omega, by simp only [nI, ↓evPre, ↓evPreW, evPost, evPostW, evR, evU, seval]; try rfl, rfl⟩
    · have hlt : ¬ (k : Int) < (bo.length : Nat) := by omega
      simp (disch := first | omega | (simp only [lenT]; omega)) only [dF hlt, evSt, ↓evPre, ↓evPreW, evPost, evPostW, evR, evU, seval]
      exact hK _ _ ⟨⟨rfl, rfl, rfl, rfl, rfl⟩, rfl, rfl, g, hg, hok, htk, hbl⟩
  clear e0 e1 e2 e3 e4 e14 e19 hg hok htk0 hbg0 g0 S2
  rintro E S2 ⟨⟨e0, e1, e2, e3, e4⟩, e14, e19, g0, hg, hok, htk0, hbg0⟩
  refine stageA (fun E S' => AE ca cl gs bs bo E ∧ E.get 14 = .sl 1 (tk.map nI) ∧ E.get 19 = .ptr b 0 0 0 ∧ E.get 23 = .sl 3 ((missF g0).map bgR) ∧ S' = S2) ?_ ?_
  · intro K hK
    have ms := missing_A hg (by omega) (by rw [htk0]; omega) hok.len hok.bag
    simp (disch := first | omega | (simp only [lenT]; omega)) only [e19, evSt, ↓evPre, ↓evPreW, evPost, evPostW, evR, evU, seval]
    refine ms.then ?_
    simp (disch := first | omega | (simp only [lenT]; omega)) only [evSt, ↓evPre, ↓evPreW, evPost, evPostW, evR, evU, seval]
    exact hK _ _ ⟨⟨e0, e1, e2, e3, e4⟩, e14, e19, rfl, rfl⟩
  clear e0 e1 e2 e3 e4 e14 e19
  rintro E S4 ⟨⟨e0, e1, e2, e3, e4⟩, e14, e19, e23, hS4⟩
  rw [hS4]
  clear hS4 S4
  have hml : (missF g0).length ≤ 8 := Nat.le_trans (List.length_filter_le _ _) hbg0
  have hmu := miss_unloads hok
  generalize missF g0 = ml at e23 hml hmu
  refine stageA (fun E S' => AE ca cl gs bs bo E ∧ E.get 14 = .sl 1 (tk.map nI) ∧ E.get 19 = .ptr b 0 0 0 ∧ ∃ g, GAt S a b false false g S' ∧ GOk g bo ∧ g.tk = tk ∧ g.bags.length ≤ 8 ∧ missF g = []) ?_ ?_
  · intro K hK
    simp (disch := first | omega | (simp only [lenT]; omega)) only [evSt, ↓evPre, ↓evPreW, evPost, evPostW, evR, evU, seval]
    refine loopA (ι := Nat × Gat × Store) (fun i => [(0, .sl 3 (ca.map St.seaR)), (1, .sl 4 (cl.map St.clmR)), (2, .sl 3 (gs.map Ck.gstR)), (3, .sl 3 (bs.map bgR)), (4, .sl 1 (bo.map nI)), (14, .sl 1 (tk.map nI)), (19, .ptr b 0 0 0), (23, .sl 3 (ml.map bgR)), (24, .int .i64 (i.1 : Nat))]) (fun i => i.2.2)
      (fun i => i.1 ≤ ml.length ∧ GAt S a b false false i.2.1 i.2.2 ∧ GOk i.2.1 bo ∧ i.2.1.tk = tk ∧ i.2.1.bags.length ≤ 8 ∧ missF (unloads i.2.1 (ml.drop i.1)) = []) (fun i => ml.length - i.1) (0, g0, S2) ⟨Nat.zero_le _, hg.low, hok, htk0, hbg0, hmu⟩ ?_ rfl ?_
    · simp only [e0, e1, e2, e3, e4, e14, e19, e23, ↓evPre, ↓evPreW, evPost, evPostW, evR, evU, seval]
      try rfl
    clear e0 e1 e2 e3 e4 e14 e19 e23 hg hok htk0 hbg0 hmu
    rintro ⟨k, g, S1⟩ ⟨hk, hg, hok, htk, hbl, hmu⟩
    simp only at hk hg hok htk hbl hmu ⊢
    by_cases hkn : k < ml.length
    · have hlt : (k : Int) < (ml.length : Nat) := by omega
      have hk1 : (k : Int) + 1 = ((k + 1 : Nat) : Int) := by omega
      obtain ⟨x, hx⟩ : ∃ x, ml[k]? = some x := ⟨_, List.getElem?_eq_getElem hkn⟩
      have ud := unload_A hg (by omega) x.tag
      have hd : ml.drop k = x :: ml.drop (k + 1) := by
        rw [List.drop_eq_getElem_cons hkn]
        rw [List.getElem?_eq_getElem hkn] at hx
        cases hx
        rfl
      rw [hd, unloads] at hmu
      simp (disch := first | omega | (simp only [lenT]; omega)) only [dT hlt, hx, bgR, evSt, ↓evPre, ↓evPreW, evPost, evPostW, evR, evU, seval]
      refine ud.mono ?_
      rintro r3 S3 hg3
      simp (disch := first | omega | (simp only [lenT]; omega)) only [wrap_i64, hk1, evSt, ↓evPre, ↓evPreW, evPost, evPostW, evR, evU, seval]
      obtain ⟨ok3, tk3, _⟩ := unloadF_ok hok x.tag
      have hb3 := unload_filter hok x.tag
      have hb4 : (unloadF g x.tag).bags.length ≤ g.bags.length := by rw [hb3]; exact List.length_filter_le _ _
      exact ⟨(k + 1, unloadF g x.tag, S3), ⟨by simp only; omega, hg3, ok3, tk3.trans htk, by simp only; omega, hmu⟩, by simp only; omega, by simp only [bgR, ↓evPre, ↓evPreW, evPost, evPostW, evR, evU, seval]; try rfl, rfl⟩
    · have hlt : ¬ (k : Int) < (ml.length : Nat) := by omega
      rw [List.drop_eq_nil_of_le (by omega), unloads] at hmu
      simp (disch := first | omega | (simp only [lenT]; omega)) only [dF hlt, evSt, ↓evPre, ↓evPreW, evPost, evPostW, evR, evU, seval]
      exact hK _ _ ⟨⟨rfl, rfl, rfl, rfl, rfl⟩, rfl, rfl, g, hg, hok, htk, hbl, hmu⟩
  clear e0 e1 e2 e3 e4 e14 e19 e23 hg hok htk0 hbg0 hmu hml ml g0 S2
  rintro E S2 ⟨⟨e0, e1, e2, e3, e4⟩, e14, e19, g, hg, hok, htk, hbl, hmu⟩
  have htn : g.tk.length ≤ 1000 := by rw [htk]; omega
  refine stageA (fun E S' => AE ca cl gs bs bo E ∧ E.get 14 = .sl 1 (tk.map nI) ∧ E.get 19 = .ptr b 0 0 0 ∧ E.get 25 = .sl 1 ((listF true g.tk g.ab).map nI) ∧ E.get 26 = .int .i64 0 ∧ GAt S a b true false g S') ?_ ?_
  · intro K hK
    have cs := close_A hg (by omega) htn hok.len hok.bag hmu
    simp (disch := first | omega | (simp only [lenT]; omega)) only [e19, evSt, ↓evPre, ↓evPreW, evPost, evPostW, evR, evU, seval]
    refine cs.mono ?_
    rintro _ S3 ⟨rfl, hg3⟩
    simp (disch := first | omega | (simp only [lenT]; omega)) only [evSt, ↓evPre, ↓evPreW, evPost, evPostW, evR, evU, seval]
    exact hK _ _ ⟨⟨e0, e1, e2, e3, e4⟩, e14, e19, rfl, rfl, hg3⟩
  clear e0 e1 e2 e3 e4 e14 e19 hg S2
  rintro E S2 ⟨⟨e0, e1, e2, e3, e4⟩, e14, e19, e25, e26, hg⟩
  have hll := list_len g.tk g.ab hok.len
  have hlm : ∀ t ∈ listF true g.tk g.ab, t ∈ tk ∧ t ∈ bo := fun t ht => by
    obtain ⟨i, h1, h2⟩ := list_mem ht
    exact ⟨htk ▸ List.mem_of_getElem? h1, hok.ab i t h1 h2⟩
  refine stageA (fun E S' => AE ca cl gs bs bo E ∧ E.get 14 = .sl 1 (tk.map nI) ∧ E.get 25 = .sl 1 ((listF true g.tk g.ab).map nI) ∧ S' = S2) ?_ ?_
  · intro K hK
    have ms := missing_A hg (by omega) (by omega) hok.len hok.bag
    have wt := waiting_A hg htn hok.len
    rw [hmu] at ms
    have q1 : (((listF true g.tk g.ab).length : Nat) : Int) + ((listF false g.tk g.ab).length : Nat) = (tk.length : Nat) := by rw [← htk]; omega
    have q2 : ((tk.length : Nat) : Int) ≤ 12 := by omega
    simp (disch := first | omega | (simp only [lenT]; omega)) only [e19, e26, Bool.not_true, evSt, ↓evPre, ↓evPreW, evPost, evPostW, evR, evU, seval]
    refine ms.then ?_
    simp (disch := first | omega | (simp only [lenT]; omega)) only [e19, e25, List.map_nil, List.length_nil, evSt, ↓evPre, ↓evPreW, evPost, evPostW, evR, evU, seval]
    refine wt.then ?_
    simp (disch := first | omega | (simp only [lenT]; omega)) only [e14, wrap_i64, dT q1, Bool.not_true, evSt, ↓evPre, ↓evPreW, evPost, evPostW, evR, evU, seval]
    exact hK _ _ ⟨⟨e0, e1, e2, e3, e4⟩, e14, e25, rfl⟩
  clear e0 e1 e2 e3 e4 e14 e19 e25 e26
  rintro E S4 ⟨⟨e0, e1, e2, e3, e4⟩, e14, e25, hS4⟩
  rw [hS4]
  clear hS4 S4
  have hl12 : (listF true g.tk g.ab).length ≤ 12 := by rw [htk] at hll ⊢; omega
  generalize listF true g.tk g.ab = ls at hlm e25 hl12
  obtain ⟨⟨T, hT⟩, -⟩ := hg
  refine stageA (fun E S' => S' = S2) ?_ ?_
  · intro K hK
    simp (disch := first | omega | (simp only [lenT]; omega)) only [evSt, ↓evPre, ↓evPreW, evPost, evPostW, evR, evU, seval]
    refine loopA (ι := Nat) (fun k => [(4, .sl 1 (bo.map nI)), (14, .sl 1 (tk.map nI)), (25, .sl 1 (ls.map nI)), (27, .int .i64 (k : Nat))]) (fun _ => S2) (fun k => k ≤ ls.length) (fun k => ls.length - k) 0 (Nat.zero_le _) ?_ rfl ?_
    · simp only [e4, e14, e25, ↓evPre, ↓evPreW, evPost, evPostW, evR, evU, seval]
      try rfl
    clear e0 e1 e2 e3 e4 e14 e25
    intro k hk
    by_cases hkn : k < ls.length
    · have hlt : (k : Int) < (ls.length : Nat) := by omega
      have hk1 : (k : Int) + 1 = ((k + 1 : Nat) : Int) := by omega
      obtain ⟨x, hx⟩ : ∃ x, ls[k]? = some x := ⟨_, List.getElem?_eq_getElem hkn⟩
      obtain ⟨hx1, hx2⟩ := hlm x (List.mem_of_getElem? hx)
      have am1 := among_A tk (by omega) x S2
      have am2 := among_A bo (by omega) x S2
      rw [List.contains_iff_mem.2 hx1] at am1
      rw [List.contains_iff_mem.2 hx2] at am2
      simp (disch := first | omega | (simp only [lenT]; omega)) only [dT hlt, hx, nI, evSt, ↓evPre, ↓evPreW, evPost, evPostW, evR, evU, seval]
      refine am1.then ?_
      simp (disch := first | omega | (simp only [lenT]; omega)) only [hx, nI, Bool.not_true, evSt, ↓evPre, ↓evPreW, evPost, evPostW, evR, evU, seval]
      refine am2.then ?_
      simp (disch := first | omega | (simp only [lenT]; omega)) only [wrap_i64, hk1, Bool.not_true, evSt, ↓evPre, ↓evPreW, evPost, evPostW, evR, evU, seval]
      refine ⟨k + 1, by omega, by omega, by first | rfl | exact ⟨rfl, rfl⟩ | exact ⟨rfl, rfl, rfl⟩⟩
    · have hlt : ¬ (k : Int) < (ls.length : Nat) := by omega
      simp (disch := first | omega | (simp only [lenT]; omega)) only [dF hlt, evSt, ↓evPre, ↓evPreW, evPost, evPostW, evR, evU, seval]
      exact hK _ _ rfl
  rintro E S4 hS4
  rw [hS4]
  simp (disch := first | omega | (simp only [lenT]; omega)) only [evSt, ↓evPre, ↓evPreW, evPost, evPostW, evR, evU, seval]
  refine (aw _).then ?_
  simp (disch := first | omega | (simp only [lenT]; omega)) only [evSt, ↓evPre, ↓evPreW, evPost, evPostW, evR, evU, seval]
  exact ⟨_, S, hT ▸ hn.fgt T, .imm rfl, Nat.le_refl _, rfl, rfl⟩
end Go.Proofs.YtjjdfkkfhbndiaaDoor
