/- The reference's rest of a line; Parse. -/
import Derived.Test.YtkdbghhdklfoiaaDoorSFd9
import Derived.Test.YtkdbghhdklfoiaaDoorSFcA
namespace Go.Proofs.YtkdbghhdklfoiaaDoor
open Go Go.AL Go.RowKit
set_option linter.unusedSectionVars false
variable [Go.AL.Mode] [Go.AL.LooseM]
set_option linter.unusedSimpArgs false
set_option linter.unusedVariables false
theorem mu_no {ws : List Txt} {i : Nat} {c : Txt} (h : nxF (ws.drop i) 0 ≠ c) : (muF c ⟨ws.drop i, 0⟩).e = 3 := by
  unfold muF
  cases hd : ws.drop i with
  | nil => split <;> rfl
  | cons w l =>
    rw [hd] at h
    rw [wd_cons]
    rw [if_pos ⟨h, rfl⟩]
theorem mu_yes {ws : List Txt} {i : Nat} {c : Txt} (h : nxF (ws.drop i) 0 = c) (h0 : c ≠ []) : muF c ⟨ws.drop i, 0⟩ = ⟨ws.drop (i + 1), 0⟩ ∧ i < ws.length := by
  cases hc : ws[i]? with
  | none =>
    rw [List.drop_of_length_le (List.getElem?_eq_none_iff.1 hc)] at h
    exact absurd h.symm h0
  | some w =>
    rw [drop_at hc] at h ⊢
    have hw : w = c := h
    rw [hw]
    exact ⟨mu_cons c _, (List.getElem?_eq_some_iff.1 hc).1⟩
theorem am_drop (ws : List Txt) (j : Nat) : (amF ⟨ws.drop j, 0⟩).1 = (amI ws j).1 ∧ (amF ⟨ws.drop j, 0⟩).2.e = (amI ws j).2 ∧ ((amI ws j).2 = 0 → j < ws.length ∧ (amF ⟨ws.drop j, 0⟩).2 = ⟨ws.drop (j + 1), 0⟩) := by
  unfold amI
  cases hc : ws[j]? with
  | none =>
    rw [List.drop_of_length_le (List.getElem?_eq_none_iff.1 hc)]
    exact ⟨rfl, rfl, fun h => by cases h⟩
  | some a =>
    rw [drop_at hc]
    have ham : amF ⟨a :: ws.drop (j + 1), 0⟩ = ((mparF a).1, ⟨ws.drop (j + 1), (mparF a).2⟩) := rfl
    rw [ham]
    exact ⟨rfl, rfl, fun h => ⟨(List.getElem?_eq_some_iff.1 hc).1, by simp only at h ⊢; rw [h]⟩⟩
def raF (s : Rs) : Int × Rs := amF (muF faW s)
def rtF (n : Nat) (s : Rs) : List Chg × Rs := txL n (raF s).2
def rbF (n : Nat) (s : Rs) : Int × Rs := amF (muF toW (rtF n s).2)
theorem rb_bad1 {n : Nat} {s : Rs} {e : Int} (h : (raF s).2.e = e) (h0 : e ≠ 0) : e1F (rbF n s).2 = e := by
  have hb : (raF s).2.e ≠ 0 := by rw [h]; exact h0
  unfold rbF rtF
  rw [tx_bad n hb]
  simp only
  rw [mu_bad _ hb, am_bad hb]
  unfold e1F
  rw [if_neg (fun k => hb k.1)]
  exact h
theorem ra_bad {s : Rs} {e : Int} (h : (muF faW s).e = e) (h0 : e ≠ 0) : (raF s).2.e = e := by
  have hb : (muF faW s).e ≠ 0 := by rw [h]; exact h0
  unfold raF
  rw [am_bad hb]
  exact h
theorem rb_bad2 {n : Nat} {s : Rs} {e : Int} (h : (rtF n s).2.e = e) (h0 : e ≠ 0) : e1F (rbF n s).2 = e := by
  have hb : (rtF n s).2.e ≠ 0 := by rw [h]; exact h0
  unfold rbF
  rw [mu_bad _ hb, am_bad hb]
  unfold e1F
  rw [if_neg (fun k => hb k.1)]
  exact h
theorem rb_bad3 {n : Nat} {s : Rs} {e : Int} (h : (muF toW (rtF n s).2).e = e) (h0 : e ≠ 0) : e1F (rbF n s).2 = e := by
  have hb : (muF toW (rtF n s).2).e ≠ 0 := by rw [h]; exact h0
  unfold rbF
  rw [am_bad hb]
  unfold e1F
  rw [if_neg (fun k => hb k.1)]
  exact h
theorem rb_bad4 {n : Nat} {s : Rs} {e : Int} (h : (rbF n s).2.e = e) (h0 : e ≠ 0) : e1F (rbF n s).2 = e := by
  have hb : (rbF n s).2.e ≠ 0 := by rw [h]; exact h0
  unfold e1F
  rw [if_neg (fun k => hb k.1)]
  exact h
theorem rd_eq {ws : List Txt} {w : Txt} {l : List Txt} {its : List Itm} {s : Rs} (hw : ws = w :: l) (h : itsL (ws.length + 1) w ⟨l, 0⟩ = (its, s)) : rdF ws = (⟨its, (rtF (ws.length + 1) s).1, (raF s).1, (rbF (ws.length + 1) s).1⟩, (rbF (ws.length + 1) s).2) := by
  subst hw
  unfold rdF
  simp only [wd_cons]
  rw [h]
  rfl
def RstR (ws : List Txt) (i : Nat) (r : V) : Prop := ∃ (txs : List Chg) (fare tot e : Int), r = .tup [.agg (calR ⟨[], txs, fare, tot⟩), .int .i64 e] ∧ txs.length ≤ ws.length ∧
  ((e = 0 ∧ e1F (rbF (ws.length + 1) ⟨ws.drop i, 0⟩).2 = 0 ∧ txs = (rtF (ws.length + 1) ⟨ws.drop i, 0⟩).1 ∧ fare = (raF ⟨ws.drop i, 0⟩).1 ∧ tot = (rbF (ws.length + 1) ⟨ws.drop i, 0⟩).1) ∨ (e ≠ 0 ∧ e1F (rbF (ws.length + 1) ⟨ws.drop i, 0⟩).2 = e))
structure RsS (S : Store) (txs : List Chg) (tv : V) (row : List V) (S1 : Store) : Prop where
  b0 : S1.obj? S.length 0 = some (45, 4, [[.nilSl, .nilSl, .int .i64 0, .int .i64 0]])
  bx : S1.obj? (S.length + 1) 0 = some (45, 4, [row])
  ts : Lst (S.length + 2) S1 74 2 (txs.map chgR) tv
  ext : ∃ X, S1 = S ++ X
section
variable {S : Store} {txs : List Chg} {tv : V} {row : List V} {S1 : Store}
theorem RsS.len (h : RsS S txs tv row S1) : S.length + 2 ≤ S1.length := by
  have := obj_lt h.bx
  omega
theorem RsS.box (h : RsS S txs tv row S1) (row2 : List V) : RsS S txs tv row2 (S1.set (S.length + 1) ⟨0, some (.arr 45 4 [row2])⟩) := by
  have f := frm_set S1 (S.length + 1) ⟨0, some (.arr 45 4 [row2])⟩
  exact ⟨f.obj h.b0 (by omega), obj_set h.bx, h.ts.frm f fun i hi => by have := (h.ts.lt hi).2; omega, f.ext h.ext fun i hi => by omega⟩
theorem RsS.app (h : RsS S txs tv row S1) {x : Chg} {K : V → Store → Prop} (hl : txs.length ≤ 1000000) (k : ∀ v' S2, RsS S (txs ++ [x]) v' row S2 → v'.cells? = some [v'] → K v' S2) : appK 74 2 tv (some (2, [chgR x])) S1 K := by
  have hln := h.len
  refine h.ts.app (by omega) (by simpa using hl) fun v' S2 k2 f2 i2 => k v' S2 ⟨f2.obj h.b0 (fun hi => by have := (h.ts.lt hi).2; omega), f2.obj h.bx (fun hi => by have := (h.ts.lt hi).2; omega), ?_, f2.ext h.ext fun i hi => by have := (h.ts.lt hi).2; omega⟩ k2.cells
  rw [List.map_append]
  exact k2
end
theorem rst_end {ws : List Txt} {i : Nat} {S : Store} {txs : List Chg} {tv : V} {row : List V} {S1 : Store} (hn : Neat S) (h : RsS S txs tv row S1) (fare tot e : Int) (o : Go.AL.Obj) (hr : RstR ws i (.tup [.agg (calR ⟨[], txs, fare, tot⟩), .int .i64 e])) :
    ∃ r1 S2, Fgt (S1.set S.length o) S2 ∧ Frz (S1.set S.length o) S2 (.tup [.agg [.nilSl, tv, .int .i64 fare, .int .i64 tot], .int .i64 e]) r1 ∧ S.length ≤ S2.length ∧ RstR ws i r1 ∧ S2 = S := by
  have f := frm_set S1 S.length o
  have h1 := h.ts.frm f fun i hi => by have := (h.ts.lt hi).2; omega
  obtain ⟨X, hX⟩ := f.ext h.ext fun i hi => by omega
  exact ⟨_, S, by rw [hX]; exact hn.fgt _, .tup2 (frz_agg (show FrzAll _ _ _ (calR ⟨[], txs, fare, tot⟩) from ⟨.nil, h1.frz (by omega) (chgR_imm txs), .imm rfl, .imm rfl, trivial⟩)) (.imm rfl), Nat.le_refl _, hr, rfl⟩
set_option maxHeartbeats 4000000 in
theorem rrest_A (ws : List Txt) (i : Nat) (hl : ws.length ≤ 100000) (hi : i ≤ ws.length) (hw : ∀ w ∈ ws, w.length ≤ 1000000) (S : Store) : CallA Tryd.prog 42 [.sl 1 (ws.map txR), .int .i64 (i : Nat)] S fun r S' => RstR ws i r ∧ S' = S := by
  refine CallA.withNeat Tryd.func42 c10042 fun hn => ?_
  refine CallA.fin Tryd.func42 c10042 (Nat.le_of_ble_eq_true rfl) fun σ hσ => ?_
  have wi : ∀ (i : Nat) (S : Store), i ≤ ws.length → CallA Tryd.prog 69 [.sl 1 (ws.map txR), .int .i64 (i : Nat)] S fun r S' => r = .str (nxF (ws.drop i) 0) ∧ S' = S := fun i S h => rword_A ws i (by omega) (by omega) S
  have ai : ∀ (i : Nat) (S : Store), i ≤ ws.length + 2 → CallA Tryd.prog 70 [.sl 1 (ws.map txR), .int .i64 (i : Nat)] S fun r S' => r = .tup [.int .i64 (amI ws i).1, .int .i64 (amI ws i).2] ∧ S' = S := fun i S h => ramount_A ws i (by omega) (by omega) (fun w h => by have := hw w h; omega) S
  have hi1 : (i : Int) + 1 = ((i + 1 : Nat) : Int) := by omega
  have hi2 : (i : Int) + 2 = ((i + 2 : Nat) : Int) := by omega
  have h0 : RsS S [] .nilSl [.nilSl, .nilSl, .int .i64 0, .int .i64 0] (S ++ [⟨0, some (.arr 45 4 [[.nilSl, .nilSl, .int .i64 0, .int .i64 0]])⟩, ⟨0, some (.arr 45 4 [[.nilSl, .nilSl, .int .i64 0, .int .i64 0]])⟩]) :=
    ⟨ob_app0.trans ob_head, by rw [ob_app, ob_cons, ob_head], .inl ⟨rfl, rfl⟩, ⟨_, rfl⟩⟩
  simp (disch := first | omega | (simp only [lenT]; omega)) only [a10042, evSt, ↓evPre, ↓evPreW, evPost, evPostW, evR, evU, seval]
  refine (wi i _ hi).then ?_
  have b00 := h0.b0
  have b01 := h0.bx
  have hob0 := obj_set (rows' := [[.nilSl, .nilSl, .int .i64 0, .int .i64 0]]) (ver' := 0) b00
  generalize (S ++ [_, _] : Store) = S1 at h0 b00 b01 hob0 ⊢
  by_cases h1 : nxF (ws.drop i) 0 = faW
  case neg =>
    have e3 := rb_bad1 (n := ws.length + 1) (ra_bad (mu_no h1) (by decide)) (by decide)
    unfold faW at h1
    simp (disch := first | omega | (simp only [lenT]; omega)) only [dF h1, b00, b01, hob0, evSt, ↓evPre, ↓evPreW, evPost, evPostW, evR, evU, seval]
    exact rst_end hn h0 0 0 3 _ ⟨[], 0, 0, 3, rfl, Nat.zero_le _, .inr ⟨by decide, e3⟩⟩
  obtain ⟨hmu, hil⟩ := mu_yes h1 (by decide)
  have hra : raF ⟨ws.drop i, 0⟩ = amF ⟨ws.drop (i + 1), 0⟩ := by unfold raF; rw [hmu]
  obtain ⟨d1, d2, d3⟩ := am_drop ws (i + 1)
  rw [← hra] at d1 d2 d3
  rw [h1]
  unfold faW
  simp (disch := first | omega | (simp only [lenT]; omega)) only [wrap_i64, hi1, evSt, ↓evPre, ↓evPreW, evPost, evPostW, evR, evU, seval]
  refine (ai (i + 1) _ (by omega)).then ?_
  generalize (amI ws (i + 1)).1 = fare at *
  generalize (amI ws (i + 1)).2 = e at *
  by_cases he : e = 0
  case neg =>
    have e3 := rb_bad1 (n := ws.length + 1) d2 he
    simp (disch := first | omega | (simp only [lenT]; omega)) only [dF he, b00, b01, hob0, evSt, ↓evPre, ↓evPreW, evPost, evPostW, evR, evU, seval]
    exact rst_end hn h0 0 0 e _ ⟨[], 0, 0, e, rfl, Nat.zero_le _, .inr ⟨he, e3⟩⟩
  subst he
  obtain ⟨hil2, d4⟩ := d3 rfl
  clear d2 d3 hob0
  have hP0 := h0.box [.nilSl, .nilSl, .int .i64 fare, .int .i64 0]
  clear h0 b00
  have hrt : rtF (ws.length + 1) ⟨ws.drop i, 0⟩ = txL (ws.length + 1) ⟨ws.drop (i + 2), 0⟩ := by unfold rtF; rw [d4]
  obtain ⟨N, hN⟩ : ∃ N, N = ws.length + 1 := ⟨_, rfl⟩
  simp (disch := first | omega | (simp only [lenT]; omega)) only [wrap_i64, hi2, b01, evSt, ↓evPre, ↓evPreW, evPost, evPostW, evR, evU, seval]
  refine loopF (ι := List Chg × Nat × Nat × V × Store) (fun q => [(0, .sl 1 (ws.map txR)), (1, .int .i64 q.2.2.1), (4, .ptr S.length 0 0 0), (6, .ptr (S.length + 1) 0 0 0)]) (fun q => q.2.2.2.2)
    (fun q => RsS S q.1 q.2.2.2.1 [.nilSl, q.2.2.2.1, .int .i64 fare, .int .i64 0] q.2.2.2.2 ∧ q.2.2.1 ≤ ws.length ∧ ws.length < q.2.2.1 + q.2.1 ∧ q.1.length ≤ q.2.2.1 ∧ rtF N ⟨ws.drop i, 0⟩ = (q.1 ++ (txL q.2.1 ⟨ws.drop q.2.2.1, 0⟩).1, (txL q.2.1 ⟨ws.drop q.2.2.1, 0⟩).2)) (fun q => q.2.1)
    (fun q hq => by rw [hσ]; have := hq.1.len; omega) ([], N, i + 2, .nilSl, _) ⟨hP0, by simp only; omega, by simp only; omega, Nat.zero_le _, by simp only [List.nil_append]; rw [hN]; exact hrt⟩ (.inl ⟨?_, rfl⟩) ?_
  · simp only [↓evPre, ↓evPreW, evPost, evPostW, evR, evU, seval]
    try rfl
  clear hP0 b01 S1
  rintro ⟨txs, n, j, tv, S1⟩ ⟨hP, hj, hjn, htl, hit⟩
  simp only at hP hj hjn htl hit ⊢
  obtain ⟨m, rfl⟩ : ∃ m, n = m + 1 := ⟨n - 1, by omega⟩
  have hj1 : (j : Int) + 1 = ((j + 1 : Nat) : Int) := by omega
  have hj2 : (j : Int) + 2 = ((j + 2 : Nat) : Int) := by omega
  have hj3 : (j : Int) + 3 = ((j + 3 : Nat) : Int) := by omega
  have b0 := hP.b0
  have bx := hP.bx
  have ok := hP.ts.cellOk
  have hob := obj_set (rows' := [[.nilSl, tv, .int .i64 fare, .int .i64 0]]) (ver' := 0) b0
  have bad : ∀ (e : Int), e ≠ 0 → (rtF N ⟨ws.drop i, 0⟩).2.e = e → RstR ws i (.tup [.agg (calR ⟨[], txs, fare, 0⟩), .int .i64 e]) := fun e he h => ⟨txs, fare, 0, e, rfl, by omega, .inr ⟨he, by rw [hN] at h; exact rb_bad2 h he⟩⟩
  simp (disch := first | omega | (simp only [lenT]; omega)) only [evSt, ↓evPre, ↓evPreW, evPost, evPostW, evR, evU, seval]
  refine (wi j _ hj).then ?_
  by_cases h2 : nxF (ws.drop j) 0 = txW
  · rw [show txL (m + 1) ⟨ws.drop j, 0⟩ = _ from if_pos h2] at hit
    obtain ⟨w, hw0⟩ : ∃ w, ws[j]? = some w := by
      cases hc : ws[j]? with
      | none =>
        rw [List.drop_of_length_le (List.getElem?_eq_none_iff.1 hc)] at h2
        cases h2
      | some k => exact ⟨k, rfl⟩
    rw [h2]
    unfold txW
    have ht1 : t1F ⟨ws.drop j, 0⟩ = wdF ⟨ws.drop (j + 1), 0⟩ := by unfold t1F; rw [drop_at hw0, wd_cons]
    cases hc : ws[j + 1]? with
    | none =>
      have hge := List.getElem?_eq_none_iff.1 hc
      have hgi : ((ws.length : Nat) : Int) ≤ ((j + 1 : Nat) : Int) := by omega
      rw [List.drop_of_length_le hge] at ht1
      have h3 : (t2F ⟨ws.drop j, 0⟩).2.e = 3 := by unfold t2F; rw [ht1]; rfl
      have hb2 : (rtF N ⟨ws.drop i, 0⟩).2.e = 3 := by
        rw [hit]
        simp only
        rw [tx_bad m (by rw [h3]; decide)]
        exact h3
      simp (disch := first | omega | (simp only [lenT]; omega)) only [dT hgi, wrap_i64, hj1, b0, bx, ok, hob, evSt, ↓evPre, ↓evPreW, evPost, evPostW, evR, evU, seval]
      exact rst_end hn hP fare 0 3 _ (bad 3 (by decide) hb2)
    | some co =>
      have hgl := (List.getElem?_eq_some_iff.1 hc).1
      have hgi : ¬ ((ws.length : Nat) : Int) ≤ ((j + 1 : Nat) : Int) := by omega
      rw [drop_at hc, wd_cons, show j + 1 + 1 = j + 2 from rfl] at ht1
      have ht2 : t2F ⟨ws.drop j, 0⟩ = amF ⟨ws.drop (j + 2), 0⟩ := by unfold t2F; rw [ht1]
      obtain ⟨g1, g2, g3⟩ := am_drop ws (j + 2)
      rw [← ht2] at g1 g2 g3
      simp (disch := first | omega | (simp only [lenT]; omega)) only [dF hgi, wrap_i64, hj1, hj2, evSt, ↓evPre, ↓evPreW, evPost, evPostW, evR, evU, seval]
      refine (ai (j + 2) _ (by omega)).then ?_
      generalize (amI ws (j + 2)).1 = am at *
      generalize (amI ws (j + 2)).2 = e at *
      by_cases he : e = 0
      case neg =>
        have hb2 : (rtF N ⟨ws.drop i, 0⟩).2.e = e := by
          rw [hit]
          simp only
          rw [tx_bad m (by rw [g2]; exact he)]
          exact g2
        simp (disch := first | omega | (simp only [lenT]; omega)) only [dF he, b0, bx, ok, hob, evSt, ↓evPre, ↓evPreW, evPost, evPostW, evR, evU, seval]
        exact rst_end hn hP fare 0 e _ (bad e he hb2)
      subst he
      obtain ⟨g4, g5⟩ := g3 rfl
      rw [show j + 2 + 1 = j + 3 from rfl] at g5
      rw [ht1, g1, g5] at hit
      simp only at hit
      simp (disch := first | omega | (simp only [lenT]; omega)) only [hc, txR, bx, wrap_i64, hj1, evSt, ↓evPre, ↓evPreW, evPost, evPostW, evR, evU, seval]
      refine hP.app (x := ⟨co, am⟩) (by omega) fun v' S2 hP2 ck => ?_
      have bx2 := hP2.bx
      simp (disch := first | omega | (simp only [lenT]; omega)) only [bx2, ck, wrap_i64, hj3, evSt, ↓evPre, ↓evPreW, evPost, evPostW, evR, evU, seval]
      exact ⟨(txs ++ [⟨co, am⟩], m, j + 3, v', _), ⟨hP2.box [.nilSl, v', .int .i64 fare, .int .i64 0], by simp only; omega, by simp only; omega, by simp only [List.length_append, List.length_singleton]; omega, by simp only [List.append_assoc, List.singleton_append]; exact hit⟩, by simp only; omega, .inl ⟨by simp only [↓evPre, ↓evPreW, evPost, evPostW, evR, evU, seval]; try rfl, rfl⟩⟩
  rw [show txL (m + 1) ⟨ws.drop j, 0⟩ = _ from if_neg h2] at hit
  simp only [List.append_nil] at hit
  unfold txW at h2
  simp (disch := first | omega | (simp only [lenT]; omega)) only [dF h2, evSt, ↓evPre, ↓evPreW, evPost, evPostW, evR, evU, seval]
  refine (wi j _ hj).then ?_
  by_cases h3 : nxF (ws.drop j) 0 = toW
  case neg =>
    have e3 := rb_bad3 (n := ws.length + 1) (s := ⟨ws.drop i, 0⟩) (e := 3) (by rw [← hN, hit]; exact mu_no h3) (by decide)
    unfold toW at h3
    simp (disch := first | omega | (simp only [lenT]; omega)) only [dF h3, b0, bx, ok, hob, evSt, ↓evPre, ↓evPreW, evPost, evPostW, evR, evU, seval]
    exact rst_end hn hP fare 0 3 _ ⟨txs, fare, 0, 3, rfl, by omega, .inr ⟨by decide, e3⟩⟩
  obtain ⟨hmu2, hjl⟩ := mu_yes h3 (by decide)
  have hrb : rbF (ws.length + 1) ⟨ws.drop i, 0⟩ = amF ⟨ws.drop (j + 1), 0⟩ := by unfold rbF; rw [← hN, hit, hmu2]
  obtain ⟨g1, g2, g3⟩ := am_drop ws (j + 1)
  rw [← hrb] at g1 g2 g3
  rw [h3]
  unfold toW
  simp (disch := first | omega | (simp only [lenT]; omega)) only [wrap_i64, hj1, evSt, ↓evPre, ↓evPreW, evPost, evPostW, evR, evU, seval]
  refine (ai (j + 1) _ (by omega)).then ?_
  generalize (amI ws (j + 1)).1 = tot at *
  generalize (amI ws (j + 1)).2 = e at *
  by_cases he : e = 0
  case neg =>
    simp (disch := first | omega | (simp only [lenT]; omega)) only [dF he, b0, bx, ok, hob, evSt, ↓evPre, ↓evPreW, evPost, evPostW, evR, evU, seval]
    exact rst_end hn hP fare 0 e _ ⟨txs, fare, 0, e, rfl, by omega, .inr ⟨he, rb_bad4 g2 he⟩⟩
  subst he
  obtain ⟨g4, g5⟩ := g3 rfl
  rw [show j + 1 + 1 = j + 2 from rfl] at g5
  have hP2 := hP.box [.nilSl, tv, .int .i64 fare, .int .i64 tot]
  have b02 := hP2.b0
  have bx2 := hP2.bx
  have ok2 := hP2.ts.cellOk
  have hob2 := obj_set (rows' := [[.nilSl, tv, .int .i64 fare, .int .i64 tot]]) (ver' := 0) b02
  by_cases h4 : ((j + 2 : Nat) : Int) = ws.length
  · have h4' : ws.drop (j + 2) = [] := List.drop_of_length_le (by omega)
    simp (disch := first | omega | (simp only [lenT]; omega)) only [bx, wrap_i64, hj2, h4, b02, bx2, ok2, hob2, evSt, ↓evPre, ↓evPreW, evPost, evPostW, evR, evU, seval]
    refine rst_end hn hP2 fare tot 0 _ ⟨txs, fare, tot, 0, rfl, by omega, .inl ⟨rfl, ?_, ?_, d1.symm, g1.symm⟩⟩
    · rw [g5, h4']
      rfl
    · rw [← hN, hit]
  · have h4' : ws.drop (j + 2) ≠ [] := fun h => by
      have := congrArg List.length h
      rw [List.length_drop, List.length_nil] at this
      omega
    simp (disch := first | omega | (simp only [lenT]; omega)) only [bx, wrap_i64, hj2, dF h4, b02, bx2, ok2, hob2, evSt, ↓evPre, ↓evPreW, evPost, evPostW, evR, evU, seval]
    refine rst_end hn hP2 fare tot 3 _ ⟨txs, fare, tot, 3, rfl, by omega, .inr ⟨by decide, ?_⟩⟩
    rw [g5]
    exact if_pos ⟨rfl, h4'⟩
end Go.Proofs.YtkdbghhdklfoiaaDoor
/- The reference's Parse. -/
namespace Go.Proofs.YtkdbghhdklfoiaaDoor
open Go Go.AL Go.RowKit
set_option linter.unusedSectionVars false
variable [Go.AL.Mode] [Go.AL.LooseM]
set_option linter.unusedSimpArgs false
set_option linter.unusedVariables false
set_option maxHeartbeats 2000000 in
theorem rparse_A (s : Txt) (hs : s.length ≤ 1000) (S : Store) : CallA Tryd.prog 18 [.str s] S fun r S' => r = .tup [.agg (calR (parF unqF s).1), .int .i64 (parF unqF s).2] ∧ S' = S := by
  refine CallA.withNeat Tryd.func18 c10018 fun hn => ?_
  refine CallA.fin Tryd.func18 c10018 (Nat.le_of_ble_eq_true rfl) fun σ hσ => ?_
  have wo := fun S => rwords_A s hs S
  unfold rwordsV at wo
  rw [rWords_eq] at wo
  unfold parF
  obtain ⟨b2, hb2⟩ : ∃ b2, b2 = S.length := ⟨_, rfl⟩
  have b0 : Store.obj? (S ++ [⟨0, some (.arr 45 4 [[.nilSl, .nilSl, .int .i64 0, .int .i64 0]])⟩]) S.length 0 = some (45, 4, [[.nilSl, .nilSl, .int .i64 0, .int .i64 0]]) := ob_app0.trans ob_head
  cases hw : wordsF unqF s with
  | none =>
    simp only [hw] at wo
    simp (disch := first | omega | (simp only [lenT]; omega)) only [a10018, evSt, ↓evPre, ↓evPreW, evPost, evPostW, evR, evU, seval]
    refine (wo _).then ?_
    simp (disch := first | omega | (simp only [lenT]; omega)) only [evSt, ↓evPre, ↓evPreW, evPost, evPostW, evR, evU, seval]
    exact par_bad hn ⟨_, rfl⟩ 3
  | some ws =>
    simp only [hw, txSl] at wo
    obtain ⟨hwl, hwt⟩ := wordsF_len hul hw
    clear hw
    have ri := fun S => ritems_A ws (by omega) (fun w h => by have := hwt w h; omega) S
    simp (disch := first | omega | (simp only [lenT]; omega)) only [a10018, evSt, ↓evPre, ↓evPreW, evPost, evPostW, evR, evU, seval]
    refine (wo _).then ?_
    simp (disch := first | omega | (simp only [lenT]; omega)) only [evSt, ↓evPre, ↓evPreW, evPost, evPostW, evR, evU, seval]
    refine (ri _).mono ?_
    rintro r S1 ⟨⟨its, i, e, rfl, hc⟩, rfl⟩
    rcases hc with ⟨rfl, hg⟩ | ⟨he, hp⟩
    case inr =>
      rw [hp]
      simp (disch := first | omega | (simp only [lenT]; omega)) only [dF he, evSt, ↓evPre, ↓evPreW, evPost, evPostW, evR, evU, seval]
      exact par_bad hn ⟨_, rfl⟩ e
    obtain ⟨w, l, j, rfl, hws, h2, hj, hit, hil, hix⟩ := hg
    have hrd := rd_eq hws hit
    have hpar : parW ws = if e2F (rdF ws) = 0 then ((rdF ws).1, 0) else (zCal, e2F (rdF ws)) := by
      subst hws
      unfold parW
      exact if_pos h2
    have rr := fun S => rrest_A ws j (by omega) hj (fun w h => by have := hwt w h; omega) S
    simp (disch := first | omega | (simp only [lenT]; omega)) only [evSt, ↓evPre, ↓evPreW, evPost, evPostW, evR, evU, seval]
    refine (rr _).mono ?_
    rintro r S2 ⟨⟨txs, fare, tot, e, rfl, htl, hc⟩, rfl⟩
    rcases hc with ⟨rfl, g1, g2, g3, g4⟩ | ⟨he, g1⟩
    case inr =>
      have he2 : e2F (rdF ws) = e := by
        rw [hrd]
        unfold e2F
        simp only
        rw [g1, if_neg he]
      rw [hpar, he2, if_neg he]
      simp (disch := first | omega | (simp only [lenT]; omega)) only [dF he, calR, evSt, ↓evPre, ↓evPreW, evPost, evPostW, evR, evU, seval]
      exact par_bad hn ⟨_, rfl⟩ e
    have hcal : (rdF ws).1 = ⟨its, txs, fare, tot⟩ := by rw [hrd, g2, g3, g4]
    have he2 : e2F (rdF ws) = chkF ⟨its, txs, fare, tot⟩ := by
      unfold e2F
      rw [hcal, show e1F (rdF ws).2 = 0 by rw [hrd]; exact g1, if_pos rfl]
    rw [hpar, he2, hcal]
    have ck := fun S => rchk_A ⟨its, txs, fare, tot⟩ (fun x hx => hix x hx) (by simp only; omega) (by simp only; omega) S
    simp only [calR] at ck
    simp (disch := first | omega | (simp only [lenT]; omega)) only [calR, evSt, ↓evPre, ↓evPreW, evPost, evPostW, evR, evU, seval]
    refine (ck _).then ?_
    generalize chkF ⟨its, txs, fare, tot⟩ = e at *
    by_cases he : e = 0
    · subst he
      simp (disch := first | omega | (simp only [lenT]; omega)) only [if_true, calR, evSt, ↓evPre, ↓evPreW, evPost, evPostW, evR, evU, seval]
      exact ⟨_, S, hn.fgt _, .tup2 (frz_agg (show FrzAll _ _ _ (calR ⟨its, txs, fare, tot⟩) from ⟨.imm rfl, .imm rfl, .imm rfl, .imm rfl, trivial⟩)) (.imm rfl), Nat.le_refl _, rfl, rfl⟩
    · rw [if_neg he]
      simp (disch := first | omega | (simp only [lenT]; omega)) only [dF he, evSt, ↓evPre, ↓evPreW, evPost, evPostW, evR, evU, seval]
      exact par_bad hn ⟨_, rfl⟩ e
end Go.Proofs.YtkdbghhdklfoiaaDoor
