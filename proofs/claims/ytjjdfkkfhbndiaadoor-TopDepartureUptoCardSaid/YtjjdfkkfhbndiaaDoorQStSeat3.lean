/- A claim gets a seat: the walk. -/
import Derived.Test.YtjjdfkkfhbndiaaDoorQStSeat1
import Derived.Test.YtjjdfkkfhbndiaaDoorQAlX
import Derived.Test.YtjjdfkkfhbndiaaDoorQCn0
namespace Go.Proofs.YtjjdfkkfhbndiaaDoor.St
open Go Go.AL
set_option linter.unusedSectionVars false
variable [Go.AL.Mode] [Go.AL.LooseM]
set_option linter.unusedSimpArgs false
set_option linter.unusedVariables false
def planR (se : List Sea) (cl : List Clm) (b : Nat) : List V := [seSl se, clSl cl, .msl b 0 0 cl.length, .msl (b + 1) 0 0 se.length]
def stS (S : Store) (se : List Sea) (cl : List Clm) (od : AL.Obj) (pv : Nat) (s : St) (T : Store) : Store :=
  S ++ ⟨0, some (.arr 3 1 (s.seat.map iR))⟩ :: ⟨0, some (.arr 3 1 (s.claim.map iR))⟩ :: ⟨pv, some (.arr 74 4 [planR se cl S.length])⟩ :: od :: ⟨0, some (.arr 4 1 (s.tried.map bR))⟩ :: T
def fitF (se : List Sea) (cl : List Clm) (i : Nat) (c : Int) : Bool := match se[i]?, cl[c.toNat]? with
  | some s, some k => fitsF s k
  | _, _ => false
theorem neat_set {S : Store} {id ver sz : Nat} {t : TypeId} {rows : List (List V)} (h : Neat S) (hr : ∀ r ∈ rows, r.length = sz ∧ V.allImm r = true) : Neat (S.set id ⟨ver, some (.arr t sz rows)⟩) := by
  rw [neat_iff] at h ⊢
  intro o ho
  rw [List.length_set]
  rcases List.mem_or_eq_of_mem_set ho with ho | rfl
  · exact h o ho
  · exact fun r hr' => ⟨(hr r hr').1, allImm_under _ (hr r hr').2⟩
theorem scan_skip {fits : Nat → Int → Bool} {rec : Int → St → Bool × St} {c : Int} {L k : Nat} {s : St} (hk : k < L) (h : (s.tried.getD k true || !fits k c) = true) : scanF fits rec c ((List.range L).drop k) s = scanF fits rec c ((List.range L).drop (k + 1)) s := by
  have e : (List.range L).drop k = k :: (List.range L).drop (k + 1) := by
    rw [List.drop_eq_getElem_cons (by simpa using hk), List.getElem_range]
  rw [e, scanF, if_pos h]
theorem scan_free {fits : Nat → Int → Bool} {rec : Int → St → Bool × St} {c : Int} {L k : Nat} {s : St} (hk : k < L) (h : (s.tried.getD k true || !fits k c) = false) (hc : s.claim.getD k 0 < 0) : scanF fits rec c ((List.range L).drop k) s = (true, (s.mark k).put k c) := by
  have e : (List.range L).drop k = k :: (List.range L).drop (k + 1) := by
    rw [List.drop_eq_getElem_cons (by simpa using hk), List.getElem_range]
  rw [e, scanF, if_neg (by rw [h]; exact Bool.false_ne_true), if_pos hc]
theorem scan_move {fits : Nat → Int → Bool} {rec : Int → St → Bool × St} {c : Int} {L k : Nat} {s : St} (hk : k < L) (h : (s.tried.getD k true || !fits k c) = false) (hc : ¬ s.claim.getD k 0 < 0) : scanF fits rec c ((List.range L).drop k) s = if (rec (s.claim.getD k 0) (s.mark k)).1 then (true, (rec (s.claim.getD k 0) (s.mark k)).2.put k c) else scanF fits rec c ((List.range L).drop (k + 1)) (rec (s.claim.getD k 0) (s.mark k)).2 := by
  have e : (List.range L).drop k = k :: (List.range L).drop (k + 1) := by
    rw [List.drop_eq_getElem_cons (by simpa using hk), List.getElem_range]
  rw [e, scanF, if_neg (by rw [h]; exact Bool.false_ne_true), if_neg hc]
theorem set_bR {l : List Bool} {k : Nat} {b : Bool} : (l.map bR).set k [.bool b] = (l.set k b).map bR := by rw [List.map_set]; rfl
theorem imm_iR (l : List Int) : ∀ r ∈ l.map iR, r.length = 1 ∧ V.allImm r = true := fun r hr => by
  obtain ⟨_, _, rfl⟩ := List.mem_map.1 hr
  exact ⟨rfl, rfl⟩
theorem imm_bR (l : List Bool) : ∀ r ∈ l.map bR, r.length = 1 ∧ V.allImm r = true := fun r hr => by
  obtain ⟨_, _, rfl⟩ := List.mem_map.1 hr
  exact ⟨rfl, rfl⟩
theorem stS_neat {S T : Store} {se : List Sea} {cl : List Clm} {od : AL.Obj} {pv : Nat} {s s' : St} (h : Neat (stS S se cl od pv s T)) : Neat (stS S se cl od pv s' T) := by
  have h1 := neat_set (id := S.length) (ver := 0) (t := 3) h (imm_iR s'.seat)
  have h2 := neat_set (id := S.length + 1) (ver := 0) (t := 3) h1 (imm_iR s'.claim)
  have h3 := neat_set (id := S.length + 4) (ver := 0) (t := 4) h2 (imm_bR s'.tried)
  have e : stS S se cl od pv s' T = (((stS S se cl od pv s T).set S.length ⟨0, some (.arr 3 1 (s'.seat.map iR))⟩).set (S.length + 1) ⟨0, some (.arr 3 1 (s'.claim.map iR))⟩).set (S.length + 4) ⟨0, some (.arr 4 1 (s'.tried.map bR))⟩ := by
    simp [stS]
  rw [e]
  exact h3
theorem stS_app {S T L : Store} {se : List Sea} {cl : List Clm} {od : AL.Obj} {pv : Nat} {s : St} : stS S se cl od pv s (T ++ L) = stS S se cl od pv s T ++ L := by simp [stS]
theorem place_A (se : List Sea) (cl : List Clm) (od : AL.Obj) (pv : Nat) (S : Store) (hL : se.length ≤ 1000000) : ∀ (n : Nat) (c : Nat) (s : St) (T : Store), c < cl.length → Wf cl.length se.length s → free s < n →
    CallA Tryd.prog 30 [.ptr (S.length + 2) pv 0 0, .int .i64 c, .msl (S.length + 4) 0 0 se.length] (stS S se cl od pv s T) fun r S' => r = .bool (placeF (fitF se cl) se.length n c s).1 ∧ S' = stS S se cl od pv (placeF (fitF se cl) se.length n c s).2 T
  | 0, c, s, T, hc, hw, hf => by omega
  | n + 1, c, s, T, hc, hw, hf => by
    refine CallA.withNeat Tryd.func30 c3026 fun hn => ?_
    refine CallA.fin Tryd.func30 c3026 (Nat.le_of_ble_eq_true rfl) fun σ hσ => ?_
    simp (disch := first | omega | (simp only [lenT]; omega)) only [a3026, stS, planR, seSl, evSt, ↓evPre, ↓evPreW, evPost, evPostW, evR, evU, seval]
    refine loopF (ι := Nat × St) (fun i => [(0, .ptr (S.length + 2) pv 0 0), (1, .int .i64 c), (2, .msl (S.length + 4) 0 0 se.length), (12, seSl se), (13, .int .i64 se.length), (14, .int .i64 i.1)]) (fun i => stS S se cl od pv i.2 T)
      (fun i => i.1 ≤ se.length ∧ Kept cl.length se.length s i.2 ∧ scanF (fitF se cl) (placeF (fitF se cl) se.length n) c ((List.range se.length).drop i.1) i.2 = placeF (fitF se cl) se.length (n + 1) c s) (fun i => se.length - i.1)
      (fun i hi => by rw [hσ]; simp [stS]) (0, s) ⟨Nat.zero_le _, ⟨hw, Nat.le_refl _⟩, rfl⟩ (.inl ⟨?_, rfl⟩) ?_
    · simp only [seSl, ↓evPre, ↓evPreW, evPost, evPostW, evR, evU, seval]
    · rintro ⟨k, s1⟩ ⟨hk, ⟨hw1, hf1⟩, hsc⟩
      simp only at hk hw1 hf1 hsc ⊢
      by_cases hkl : k < se.length
      · have hlt : (k : Int) < se.length := by omega
        have hx : se[k]? = some se[k] := List.getElem?_eq_getElem hkl
        have hm : cl[c]? = some cl[c] := List.getElem?_eq_getElem hc
        have htr := tried_at hw1 hkl
        obtain ⟨hcm, hc1, hc2⟩ := claim_at hw1 hkl
        have hfit : fitF se cl k c = fitsF se[k] cl[c] := by simp only [fitF, hx, Int.toNat_natCast, hm]
        generalize se[k] = x at hx hfit
        generalize cl[c] = m at hm hfit
        have cont : ∀ (s2 : St) (E : Env) (L : Store), Kept cl.length se.length s s2 → scanF (fitF se cl) (placeF (fitF se cl) se.length n) c ((List.range se.length).drop (k + 1)) s2 = placeF (fitF se cl) se.length (n + 1) c s →
            sub [(0, .ptr (S.length + 2) pv 0 0), (1, .int .i64 c), (2, .msl (S.length + 4) 0 0 se.length), (12, seSl se), (13, .int .i64 se.length), (14, .int .i64 (k + 1))] E →
            ∃ i' : Nat × St, (i'.1 ≤ se.length ∧ Kept cl.length se.length s i'.2 ∧ scanF (fitF se cl) (placeF (fitF se cl) se.length n) c ((List.range se.length).drop i'.1) i'.2 = placeF (fitF se cl) se.length (n + 1) c s) ∧ se.length - i'.1 < se.length - k ∧
              Back [(0, .ptr (S.length + 2) pv 0 0), (1, .int .i64 c), (2, .msl (S.length + 4) 0 0 se.length), (12, seSl se), (13, .int .i64 se.length), (14, .int .i64 i'.1)] (stS S se cl od pv i'.2 T) E (stS S se cl od pv s2 (T ++ L)) := by
          intro s2 E L h1 h2 hE
          refine ⟨(k + 1, s2), ⟨by simp only; omega, h1, h2⟩, by simp only; omega, back_under ?_ hE ?_⟩
          · rw [stS_app]; exact (stS_neat hn).fgt L
          · simp [stS, V.under, seSl]
        cases hb : s1.tried.getD k true with
        | true =>
          rw [hb] at htr
          simp (disch := first | omega | (simp only [lenT]; omega)) only [stS, planR, seSl, clSl, seaR, clmR, iR, bR, hlt, hx, hm, hcm, htr, set_bR, set_iR, wrap_i64, Int.toNat_natCast, decide_true, decide_false, Nat.zero_add, List.cons_append, List.nil_append, List.append_assoc, evSt, ↓evPre, ↓evPreW, evPost, evPostW, evR, evU, seval]
          exact cont s1 _ [_] ⟨hw1, hf1⟩ (by rw [← scan_skip hkl (by rw [hb]; rfl)]; exact hsc) ⟨rfl, rfl, rfl, rfl, rfl, rfl, trivial⟩
        | false =>
          rw [hb] at htr
          simp (disch := first | omega | (simp only [lenT]; omega)) only [stS, planR, seSl, clSl, seaR, clmR, iR, bR, hlt, hx, hm, hcm, htr, set_bR, set_iR, wrap_i64, Int.toNat_natCast, decide_true, decide_false, Nat.zero_add, List.cons_append, List.nil_append, List.append_assoc, evSt, ↓evPre, ↓evPreW, evPost, evPostW, evR, evU, seval]
          refine (fits_A x m _).then ?_
          cases hfx : fitsF x m with
          | false =>
            simp (disch := first | omega | (simp only [lenT]; omega)) only [stS, planR, seSl, clSl, seaR, clmR, iR, bR, hlt, hx, hm, hcm, htr, set_bR, set_iR, wrap_i64, Int.toNat_natCast, decide_true, decide_false, Nat.zero_add, List.cons_append, List.nil_append, List.append_assoc, evSt, ↓evPre, ↓evPreW, evPost, evPostW, evR, evU, seval]
            exact cont s1 _ [_] ⟨hw1, hf1⟩ (by rw [← scan_skip hkl (by rw [hb, hfit, hfx]; rfl)]; exact hsc) ⟨rfl, rfl, rfl, rfl, rfl, rfl, trivial⟩
          | true =>
            have hcond : (s1.tried.getD k true || !fitF se cl k c) = false := by rw [hb, hfit, hfx]; rfl
            have hfm := free_mark htr
            have seat_at : ∀ s2 : St, Wf cl.length se.length s2 → s2.seat[c]? = some (s2.seat.getD c 0) := fun s2 h2 => by
              rw [List.getD_eq_getElem?_getD, List.getElem?_eq_getElem (by rw [h2.1]; exact hc)]; rfl
            have done : ∀ (s2 : St) (L : Store), ∃ r1 S1, Fgt (stS S se cl od pv s2 (T ++ L)) S1 ∧ Frz (stS S se cl od pv s2 (T ++ L)) S1 (.bool true) r1 ∧ (stS S se cl od pv s T).length ≤ S1.length ∧ r1 = .bool true ∧ S1 = stS S se cl od pv s2 T := fun s2 L =>
              ⟨_, stS S se cl od pv s2 T, by rw [stS_app]; exact (stS_neat hn).fgt L, .imm rfl, by simp [stS], rfl, rfl⟩
            by_cases hd : s1.claim.getD k 0 < 0
            · rw [scan_free hkl hcond hd] at hsc
              have hsa := seat_at s1 hw1
              simp (disch := first | omega | (simp only [lenT]; omega)) only [hd, hcm, htr, hsa, stS, planR, seSl, clSl, seaR, clmR, iR, bR, hlt, hx, hm, set_bR, set_iR, wrap_i64, Int.toNat_natCast, decide_true, decide_false, Nat.zero_add, List.cons_append, List.nil_append, List.append_assoc, evSt, ↓evPre, ↓evPreW, evPost, evPostW, evR, evU, seval]
              rw [← hsc]
              obtain ⟨r1, S1, h1, h2, h3, h4, h5⟩ := done ((s1.mark k).put k c) [⟨0, some (.arr 39 3 [seaR x])⟩]
              exact ⟨r1, S1, h1, h2, by simpa [stS] using h3, h4, h5⟩
            · rw [scan_move hkl hcond hd] at hsc
              obtain ⟨dn, hdn⟩ : ∃ dn : Nat, s1.claim.getD k 0 = (dn : Int) := ⟨(s1.claim.getD k 0).toNat, by omega⟩
              have ih := place_A se cl od pv S hL n dn (s1.mark k) (T ++ [⟨0, some (.arr 39 3 [seaR x])⟩]) (by omega) (wf_mark hw1) (by omega)
              have hkp := place_kept (fits := fitF se cl) n dn (s1.mark k) (by omega) (by omega) (wf_mark hw1)
              rw [hdn] at hd hcm hsc
              simp (disch := first | omega | (simp only [lenT]; omega)) only [hd, hcm, htr, stS, planR, seSl, clSl, seaR, clmR, iR, bR, hlt, hx, hm, set_bR, set_iR, wrap_i64, Int.toNat_natCast, decide_true, decide_false, Nat.zero_add, List.cons_append, List.nil_append, List.append_assoc, evSt, ↓evPre, ↓evPreW, evPost, evPostW, evR, evU, seval]
              refine ih.mono ?_
              rintro _ _ ⟨rfl, rfl⟩
              generalize placeF (fitF se cl) se.length n dn (s1.mark k) = pr at hkp hsc
              obtain ⟨ok, s2⟩ := pr
              obtain ⟨hw2, hf2⟩ := hkp
              simp only at hw2 hf2 hsc
              cases ok with
              | true =>
                simp only [if_true] at hsc
                have hsa := seat_at s2 hw2
                obtain ⟨hcm2, _, _⟩ := claim_at hw2 hkl
                simp (disch := first | omega | (simp only [lenT]; omega)) only [hcm2, hsa, stS, planR, seSl, clSl, seaR, clmR, iR, bR, hlt, hx, hm, set_bR, set_iR, wrap_i64, Int.toNat_natCast, decide_true, decide_false, Nat.zero_add, List.cons_append, List.nil_append, List.append_assoc, evSt, ↓evPre, ↓evPreW, evPost, evPostW, evR, evU, seval]
                rw [← hsc]
                obtain ⟨r1, S1, h1, h2, h3, h4, h5⟩ := done (s2.put k c) [⟨0, some (.arr 39 3 [seaR x])⟩]
                exact ⟨r1, S1, h1, h2, by simpa [stS] using h3, h4, h5⟩
              | false =>
                simp only [Bool.false_eq_true, if_false] at hsc
                simp (disch := first | omega | (simp only [lenT]; omega)) only [stS, planR, seSl, clSl, seaR, clmR, iR, bR, hlt, hx, hm, set_bR, set_iR, wrap_i64, Int.toNat_natCast, decide_true, decide_false, Nat.zero_add, List.cons_append, List.nil_append, List.append_assoc, evSt, ↓evPre, ↓evPreW, evPost, evPostW, evR, evU, seval]
                exact cont s2 _ [_] ⟨hw2, by omega⟩ hsc ⟨rfl, rfl, rfl, rfl, rfl, rfl, trivial⟩
      · have hlt : ¬ (k : Int) < se.length := by omega
        have e : k = se.length := by omega
        rw [e, List.drop_eq_nil_of_le (by simp), scanF] at hsc
        rw [← hsc]
        simp (disch := first | omega | (simp only [lenT]; omega)) only [stS, planR, seSl, hlt, decide_false, evSt, ↓evPre, ↓evPreW, evPost, evPostW, evR, evU, seval]
        exact ⟨_, stS S se cl od pv s1 T, (stS_neat hn).self, .imm rfl, by simp [stS], rfl, rfl⟩
end Go.Proofs.YtjjdfkkfhbndiaaDoor.St
