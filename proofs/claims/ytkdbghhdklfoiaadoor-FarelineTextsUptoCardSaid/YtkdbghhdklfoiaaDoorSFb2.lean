/- Lines are read: fareline.Parse. -/
import Derived.Test.YtkdbghhdklfoiaaDoorSFb1
namespace Go.Proofs.YtkdbghhdklfoiaaDoor
open Go Go.AL Go.RowKit
set_option linter.unusedSectionVars false
variable [Go.AL.Mode] [Go.AL.LooseM]
set_option linter.unusedSimpArgs false
set_option linter.unusedVariables false
def itsL : Nat → Txt → Rs → List Itm × Rs
  | 0, _, s => ([], s)
  | n + 1, c, s => if (nxF s.ws s.e).length = 2 then ((itF c s).1 :: (itsL n ((itF c s).1.cs.getLast?.getD []) (itF c s).2).1, (itsL n ((itF c s).1.cs.getLast?.getD []) (itF c s).2).2) else ([], s)
def txW : Txt := [84, 65, 88]
def faW : Txt := [70, 65, 82, 69]
def toW : Txt := [84, 79, 84, 65, 76]
def t1F (s : Rs) : Txt × Rs := wdF (wdF s).2
def t2F (s : Rs) : Int × Rs := amF (t1F s).2
def txL : Nat → Rs → List Chg × Rs
  | 0, s => ([], s)
  | n + 1, s => if nxF s.ws s.e = txW then (⟨(t1F s).1, (t2F s).1⟩ :: (txL n (t2F s).2).1, (txL n (t2F s).2).2) else ([], s)
def zCal : Cal := ⟨[], [], 0, 0⟩
def rdF (ws : List Txt) : Cal × Rs :=
  let c := wdF ⟨ws, 0⟩
  let l := itsL (ws.length + 1) c.1 c.2
  let a := amF (muF faW l.2)
  let t := txL (ws.length + 1) a.2
  let b := amF (muF toW t.2)
  (⟨l.1, t.1, a.1, b.1⟩, b.2)
def e1F (r : Rs) : Int := if r.e = 0 ∧ r.ws ≠ [] then 3 else r.e
def e2F (x : Cal × Rs) : Int := if e1F x.2 = 0 then chkF x.1 else e1F x.2
def parW (ws : List Txt) : Cal × Int :=
  if (nxF (wdF ⟨ws, 0⟩).2.ws (wdF ⟨ws, 0⟩).2.e).length = 2 then (if e2F (rdF ws) = 0 then ((rdF ws).1, 0) else (zCal, e2F (rdF ws))) else (zCal, 3)
def parF (u : Txt → Option Txt) (s : Txt) : Cal × Int := match wordsF u s with
  | some ws => parW ws
  | none => (zCal, 3)
theorem mu_len (c : Txt) (s : Rs) : (muF c s).ws.length ≤ s.ws.length := by
  have := wd_len s
  unfold muF
  split <;> exact this
theorem mu_mem (c : Txt) (s : Rs) : ∀ w ∈ (muF c s).ws, w ∈ s.ws := by
  have := wd_mem s
  unfold muF
  split <;> exact this
theorem am_mem (s : Rs) : ∀ w ∈ (amF s).2.ws, w ∈ s.ws := by
  have := wd_mem s
  unfold amF
  split <;> exact this
theorem itL_len : ∀ (n : Nat) (s : Rs), (itL n s).1.length ≤ n ∧ (itL n s).2.ws.length ≤ s.ws.length ∧ ∀ w ∈ (itL n s).2.ws, w ∈ s.ws
  | 0, s => ⟨Nat.le_refl _, Nat.le_refl _, fun _ h => h⟩
  | n + 1, s => by
    have h1 := wd_len s
    have h2 := wd_len (wdF s).2
    have h3 := wd_mem s
    have h4 := wd_mem (wdF s).2
    obtain ⟨a, b, c⟩ := itL_len n (wdF (wdF s).2).2
    unfold itL
    split
    · exact ⟨by simp only [List.length_cons]; omega, by simp only; omega, fun w h => h3 w (h4 w (c w h))⟩
    · exact ⟨by simp, by simp only; omega, fun w h => h3 w (h4 w h)⟩
theorem itF_len (c : Txt) (s : Rs) : (itF c s).1.cs.length ≤ s.ws.length + 2 ∧ (itF c s).1.ks.length ≤ s.ws.length + 1 ∧ (itF c s).2.ws.length ≤ s.ws.length ∧ (∀ w ∈ (itF c s).2.ws, w ∈ s.ws) ∧ (itF c s).1.cs ≠ [] := by
  obtain ⟨a, b, d⟩ := itL_len (s.ws.length + 1) s
  have h1 := am_len (itL (s.ws.length + 1) s).2
  have h2 := wd_len (amF (itL (s.ws.length + 1) s).2).2
  have h3 := am_mem (itL (s.ws.length + 1) s).2
  have h4 := wd_mem (amF (itL (s.ws.length + 1) s).2).2
  unfold itF
  exact ⟨by simp; omega, by simp; omega, by simp only; omega, fun w h => d w (h3 w (h4 w h)), by simp⟩
theorem itL_less (n : Nat) (s : Rs) (h : (nxF s.ws s.e).length = 2) : (itL (n + 1) s).2.ws.length < s.ws.length := by
  have h1 := wd_two h
  have h2 := wd_len (wdF s).2
  obtain ⟨a, b, c⟩ := itL_len n (wdF (wdF s).2).2
  unfold itL
  split <;> simp only <;> omega
theorem itF_less (c : Txt) (s : Rs) (h : (nxF s.ws s.e).length = 2) : (itF c s).2.ws.length < s.ws.length := by
  have h0 := itL_less s.ws.length s h
  have h1 := am_len (itL (s.ws.length + 1) s).2
  have h2 := wd_len (amF (itL (s.ws.length + 1) s).2).2
  unfold itF
  simp only
  omega
theorem nx_tax {s : Rs} (h : nxF s.ws s.e = txW) : (wdF s).2.ws.length + 1 = s.ws.length := by
  unfold nxF at h
  split at h
  · rename_i he
    unfold wdF
    rw [if_pos he]
    cases hw : s.ws with
    | nil => rw [hw] at h; cases h
    | cons w l => rfl
  · cases h
structure PaS (S : Store) (its : List Itm) (txs : List Chg) (s : Rs) (iv tv : V) (row : List V) (S1 : Store) : Prop where
  rd : Rd S1 (S.length + 1) s.ws s.e
  b0 : S1.obj? S.length 0 = some (49, 4, [[.nilSl, .nilSl, .int .i64 0, .int .i64 0]])
  bx : S1.obj? (S.length + 2) 0 = some (49, 4, [row])
  is : Lst (S.length + 3) S1 72 4 (its.map itmR) iv
  ts : Lst (S.length + 3) S1 74 2 (txs.map chgR) tv
  d : ∀ i, idOf iv i → ¬ idOf tv i
  ext : ∃ T, S1 = S ++ T
section
variable {S : Store} {its : List Itm} {txs : List Chg} {s : Rs} {iv tv : V} {row : List V} {S1 : Store}
theorem PaS.len (h : PaS S its txs s iv tv row S1) : S.length + 3 ≤ S1.length := by
  have := obj_lt h.bx
  omega
theorem PaS.rds (h : PaS S its txs s iv tv row S1) (s' : Rs) : PaS S its txs s' iv tv row (S1.set (S.length + 1) (rdO s'.ws s'.e)) := by
  have f := frm_set S1 (S.length + 1) (rdO s'.ws s'.e)
  refine ⟨h.rd.set _ _, f.obj h.b0 (by omega), f.obj h.bx (by omega), h.is.frm f fun i hi => ?_, h.ts.frm f fun i hi => ?_, h.d, f.ext h.ext fun i hi => by omega⟩
  · have := (h.is.lt hi).2; omega
  · have := (h.ts.lt hi).2; omega
theorem PaS.box (h : PaS S its txs s iv tv row S1) (row2 : List V) : PaS S its txs s iv tv row2 (S1.set (S.length + 2) ⟨0, some (.arr 49 4 [row2])⟩) := by
  have f := frm_set S1 (S.length + 2) ⟨0, some (.arr 49 4 [row2])⟩
  refine ⟨f.obj h.rd (by omega), f.obj h.b0 (by omega), obj_set h.bx, h.is.frm f fun i hi => ?_, h.ts.frm f fun i hi => ?_, h.d, f.ext h.ext fun i hi => by omega⟩
  · have := (h.is.lt hi).2; omega
  · have := (h.ts.lt hi).2; omega
theorem PaS.add (h : PaS S its txs s iv tv row S1) (X : Store) : PaS S its txs s iv tv row (S1 ++ X) := by
  have f := Frm.add (fun _ => False) S1 X
  exact ⟨f.obj h.rd id, f.obj h.b0 id, f.obj h.bx id, h.is.frm f fun _ _ h => h, h.ts.frm f fun _ _ h => h, h.d, f.ext h.ext fun _ h => h.elim⟩
theorem PaS.appI (h : PaS S its txs s iv tv row S1) {x : Itm} {K : V → Store → Prop} (hl : its.length ≤ 1000000) (k : ∀ v' S2, PaS S (its ++ [x]) txs s v' tv row S2 → K v' S2) : appK 72 4 iv (some (4, [itmR x])) S1 K := by
  have hln := h.len
  refine h.is.app (by omega) (by simpa using hl) fun v' S2 k2 f2 i2 => k v' S2 ⟨f2.obj h.rd (fun hi => by have := (h.is.lt hi).2; omega), f2.obj h.b0 (fun hi => by have := (h.is.lt hi).2; omega), f2.obj h.bx (fun hi => by have := (h.is.lt hi).2; omega), ?_, h.ts.frm f2 (fun i hi hk => h.d i hk hi), fun i hi hj => ?_, f2.ext h.ext fun i hi => by have := (h.is.lt hi).2; omega⟩
  · rw [List.map_append]; exact k2
  · rcases i2 i hi with hi | hi
    · exact h.d i hi hj
    · have := (h.ts.lt hj).1; omega
theorem PaS.appT (h : PaS S its txs s iv tv row S1) {x : Chg} {K : V → Store → Prop} (hl : txs.length ≤ 1000000) (k : ∀ v' S2, PaS S its (txs ++ [x]) s iv v' row S2 → K v' S2) : appK 74 2 tv (some (2, [chgR x])) S1 K := by
  have hln := h.len
  refine h.ts.app (by omega) (by simpa using hl) fun v' S2 k2 f2 i2 => k v' S2 ⟨f2.obj h.rd (fun hi => by have := (h.ts.lt hi).2; omega), f2.obj h.b0 (fun hi => by have := (h.ts.lt hi).2; omega), f2.obj h.bx (fun hi => by have := (h.ts.lt hi).2; omega), h.is.frm f2 (fun i hi hk => h.d i hi hk), ?_, fun i hi hj => ?_, f2.ext h.ext fun i hi => by have := (h.ts.lt hi).2; omega⟩
  · rw [List.map_append]; exact k2
  · rcases i2 i hj with hj | hj
    · exact h.d i hi hj
    · have := (h.is.lt hi).1; omega
theorem PaS.word (h : PaS S its txs s iv tv row S1) (hl : s.ws.length ≤ 1000000000) : CallA Tryd.prog 32 [.ptr (S.length + 1) 0 0 0] S1 fun r S' => r = .str (wdF s).1 ∧ PaS S its txs (wdF s).2 iv tv row S' :=
  (word_A h.rd hl).mono fun r S' ⟨h1, h2⟩ => ⟨h1, by rw [h2]; exact h.rds (wdF s).2⟩
theorem PaS.must (h : PaS S its txs s iv tv row S1) (c : Txt) (hl : s.ws.length ≤ 1000000000) : CallA Tryd.prog 35 [.ptr (S.length + 1) 0 0 0, .str c] S1 fun r S' => PaS S its txs (muF c s) iv tv row S' :=
  (must_A c h.rd hl).mono fun r S' h2 => by rw [h2]; exact h.rds (muF c s)
theorem PaS.amount (h : PaS S its txs s iv tv row S1) (hl : s.ws.length ≤ 1000000000) (hw : ∀ w ∈ s.ws, w.length ≤ 1000000000) : CallA Tryd.prog 36 [.ptr (S.length + 1) 0 0 0] S1 fun r S' => r = .int .i64 (amF s).1 ∧ PaS S its txs (amF s).2 iv tv row S' :=
  (amount_A h.rd hl hw).mono fun r S' ⟨h1, h2⟩ => ⟨h1, by rw [h2]; exact h.rds (amF s).2⟩
theorem PaS.amountF (h : PaS S its txs s iv tv row S1) (hl : s.ws.length ≤ 1000000000) (hw : ∀ w ∈ s.ws, w.length ≤ 1000000000) : CallA Tryd.prog 36 [.ptr (S.length + 1) 0 0 0] S1 fun r S' => r = .int .i64 (amF s).1 ∧ PaS S its txs (amF s).2 iv tv row S' ∧ Frm (fun i => i = S.length + 1) S1 S' :=
  (amount_A h.rd hl hw).mono fun r S' ⟨h1, h2⟩ => ⟨h1, by rw [h2]; exact h.rds (amF s).2, by rw [h2]; exact frm_set _ _ _⟩
theorem PaS.setG (h : PaS S its txs s iv tv row S1) {b : Nat} (hb : S.length + 3 ≤ b) (h1 : ∀ i, idOf iv i → i ≠ b) (h2 : ∀ i, idOf tv i → i ≠ b) (o : Go.AL.Obj) : PaS S its txs s iv tv row (S1.set b o) := by
  have f := frm_set S1 b o
  exact ⟨f.obj h.rd (by omega), f.obj h.b0 (by omega), f.obj h.bx (by omega), h.is.frm f h1, h.ts.frm f h2, h.d, f.ext h.ext fun i hi => by omega⟩
theorem PaS.item (h : PaS S its txs s iv tv row S1) (c : Txt) (hl : s.ws.length ≤ 500000) (hw : ∀ w ∈ s.ws, w.length ≤ 1000000000) : CallA Tryd.prog 34 [.ptr (S.length + 1) 0 0 0, .str c] S1 fun r S' => r = .agg (itmR (itF c s).1) ∧ PaS S its txs (itF c s).2 iv tv row S' :=
  (item_A c h.rd hl hw).mono fun r S' ⟨h1, h2⟩ => ⟨h1, by rw [h2]; exact h.rds (itF c s).2⟩
end
theorem chgR_imm (l : List Chg) : ∀ r ∈ l.map chgR, r.length = 2 ∧ V.allImm r = true := fun r hr => by
  obtain ⟨x, _, rfl⟩ := List.mem_map.1 hr
  exact ⟨rfl, rfl⟩
theorem par_end {S : Store} {its : List Itm} {txs : List Chg} {s : Rs} {iv tv : V} {row : List V} {S1 : Store} (hn : Neat S) (h : PaS S its txs s iv tv row S1) (fare tot : Int) (o : Go.AL.Obj) :
    ∃ r1 S2, Fgt (S1.set S.length o) S2 ∧ Frz (S1.set S.length o) S2 (.tup [.agg [iv, tv, .int .i64 fare, .int .i64 tot], .int .i64 0]) r1 ∧ S.length ≤ S2.length ∧ r1 = .tup [.agg (calR ⟨its, txs, fare, tot⟩), .int .i64 0] ∧ S2 = S := by
  have f := frm_set S1 S.length o
  have h1 := h.is.frm f fun i hi => by have := (h.is.lt hi).2; omega
  have h2 := h.ts.frm f fun i hi => by have := (h.ts.lt hi).2; omega
  obtain ⟨T, hT⟩ := f.ext h.ext fun i hi => by omega
  refine ⟨_, S, by rw [hT]; exact hn.fgt _, .tup2 (frz_agg (show FrzAll _ _ _ (calR ⟨its, txs, fare, tot⟩) from ⟨h1.frz (by omega) (itmR_imm its), h2.frz (by omega) (chgR_imm txs), .imm rfl, .imm rfl, trivial⟩)) (.imm rfl), Nat.le_refl _, rfl, rfl⟩
theorem par_bad {S S1 : Store} (hn : Neat S) (hx : ∃ T, S1 = S ++ T) (e : Int) :
    ∃ r1 S2, Fgt S1 S2 ∧ Frz S1 S2 (.tup [.agg [.nilSl, .nilSl, .int .i64 0, .int .i64 0], .int .i64 e]) r1 ∧ S.length ≤ S2.length ∧ r1 = .tup [.agg (calR zCal), .int .i64 e] ∧ S2 = S := by
  obtain ⟨T, rfl⟩ := hx
  exact ⟨_, S, hn.fgt _, .tup2 (frz_agg (show FrzAll _ _ _ (calR zCal) from ⟨.nil, .nil, .imm rfl, .imm rfl, trivial⟩)) (.imm rfl), Nat.le_refl _, rfl, rfl⟩
theorem words_len {u : Txt → Option Txt} (hul : ∀ p t, u p = some t → t.length ≤ p.length) : ∀ {l m : List Txt} {n : Nat}, wordsL u l = some m → (∀ t ∈ l, t.length ≤ n) → ∀ t ∈ m, t.length ≤ n
  | [], m, n, h, _ => by cases h; intro t ht; cases ht
  | p :: l, m, n, h, hl => by
    rw [wordsL] at h
    cases hp : wordF u p with
    | none => rw [hp] at h; cases h
    | some t =>
      cases hm : wordsL u l with
      | none => rw [hp, hm] at h; cases h
      | some m' =>
        rw [hp, hm] at h
        cases h
        intro x hx
        rcases List.mem_cons.1 hx with rfl | hx
        · have hpl := hl p (List.mem_cons_self ..)
          unfold wordF at hp
          split at hp
          · cases hp; exact hpl
          · split at hp
            · rename_i t2 ht2
              split at hp
              · cases hp
              · cases hp
                have := hul _ _ ht2
                omega
            · cases hp
        · exact words_len hul hm (fun t ht => hl t (List.mem_cons_of_mem _ ht)) x hx
theorem wordsF_len {u : Txt → Option Txt} (hul : ∀ p t, u p = some t → t.length ≤ p.length) {s : Txt} {ws : List Txt} (h : wordsF u s = some ws) : ws.length ≤ s.length + 1 ∧ ∀ t ∈ ws, t.length ≤ s.length := by
  unfold wordsF at h
  split at h
  · cases h; exact ⟨by simp, fun t ht => by cases ht⟩
  · split at h
    · rename_i l hl
      have := wordsL_len h
      have := cut_count hl
      exact ⟨by omega, words_len hul h (cut_lens hl)⟩
    · cases h
set_option maxHeartbeats 4000000 in
theorem parse_A (u : Txt → Option Txt) (hul : ∀ p t, u p = some t → t.length ≤ p.length) (s : Txt) (hs : s.length ≤ 100000) (hu : ∀ l, cutF s = some l → ∀ p ∈ l, plainF p = false → ∀ S, CallA Tryd.prog 62 [.str p] S fun r S' => r = unqV (u p) ∧ S' = S) (S : Store) :
    CallA Tryd.prog 14 [.str s] S fun r S' => r = .tup [.agg (calR (parF u s).1), .int .i64 (parF u s).2] ∧ S' = S := by
  refine CallA.withNeat Tryd.func14 c10014 fun hn => ?_
  refine CallA.fin Tryd.func14 c10014 (Nat.le_of_ble_eq_true rfl) fun σ hσ => ?_
  have wo := fun S => words_A u s (by omega) hu S
  unfold wordsV at wo
  unfold parF
  cases hw : wordsF u s with
  | none =>
    simp only [hw] at wo
    simp (disch := first | omega | (simp only [lenT]; omega)) only [a10014, evSt, ↓evPre, ↓evPreW, evPost, evPostW, evR, evU, seval]
    refine (wo _).then ?_
    simp (disch := first | omega | (simp only [lenT]; omega)) only [evSt, ↓evPre, ↓evPreW, evPost, evPostW, evR, evU, seval]
    exact par_bad hn ⟨_, rfl⟩ 3
  | some ws =>
    simp only [hw, txSl] at wo
    obtain ⟨hwl, hwt⟩ := wordsF_len hul hw
    clear hu hw
    simp (disch := first | omega | (simp only [lenT]; omega)) only [a10014, evSt, ↓evPre, ↓evPreW, evPost, evPostW, evR, evU, seval]
    refine (wo _).then ?_
    simp (disch := first | omega | (simp only [lenT]; omega)) only [evSt, ↓evPre, ↓evPreW, evPost, evPostW, evR, evU, seval]
    have hP0 : PaS S [] [] ⟨ws, 0⟩ .nilSl .nilSl [.nilSl, .nilSl, .int .i64 0, .int .i64 0] (S ++ [⟨0, some (.arr 49 4 [[.nilSl, .nilSl, .int .i64 0, .int .i64 0]])⟩, ⟨0, some (.arr 94 2 [[.sl 1 (ws.map txR), .int .i64 0]])⟩, ⟨0, some (.arr 49 4 [[.nilSl, .nilSl, .int .i64 0, .int .i64 0]])⟩]) :=
      ⟨by unfold Rd rdR; rw [ob_app, ob_cons, ob_head], ob_app0.trans ob_head, by rw [ob_app, ob_cons, ob_cons, ob_head], .inl ⟨rfl, rfl⟩, .inl ⟨rfl, rfl⟩, (by rintro i ⟨_, _, _, hi⟩; cases hi), ⟨_, rfl⟩⟩
    refine (hP0.word (by simp only; omega)).mono ?_
    rintro r S1 ⟨rfl, hP1⟩
    clear hP0
    have hm1 : ∀ w ∈ (wdF ⟨ws, 0⟩).2.ws, w ∈ ws := wd_mem ⟨ws, 0⟩
    have hl1 : (wdF ⟨ws, 0⟩).2.ws.length ≤ ws.length := wd_len ⟨ws, 0⟩
    unfold parW rdF
    simp only
    generalize (wdF ⟨ws, 0⟩).1 = city at *
    generalize (wdF ⟨ws, 0⟩).2 = s1 at *
    simp (disch := first | omega | (simp only [lenT]; omega)) only [evSt, ↓evPre, ↓evPreW, evPost, evPostW, evR, evU, seval]
    refine (next_A hP1.rd).then ?_
    by_cases hn2 : (nxF s1.ws s1.e).length = 2
    case neg =>
      have hn2' : ¬ ((nxF s1.ws s1.e).length : Int) = 2 := by omega
      have b0 := hP1.b0
      simp (disch := first | omega | (simp only [lenT]; omega)) only [dF hn2', b0, hn2, if_false, evSt, ↓evPre, ↓evPreW, evPost, evPostW, evR, evU, seval]
      have hob := obj_set (rows' := [[.nilSl, .nilSl, .int .i64 0, .int .i64 0]]) (ver' := 0) b0
      simp (disch := first | omega | (simp only [lenT]; omega)) only [hob, evSt, ↓evPre, ↓evPreW, evPost, evPostW, evR, evU, seval]
      exact par_bad hn ((frm_set S1 S.length _).ext hP1.ext fun i hi => by omega) 3
    have hn2' : ((nxF s1.ws s1.e).length : Int) = 2 := by omega
    rw [if_pos hn2]
    simp (disch := first | omega | (simp only [lenT]; omega)) only [hn2', evSt, ↓evPre, ↓evPreW, evPost, evPostW, evR, evU, seval]
    refine loopF (ι := List Itm × Nat × Txt × Rs × V × Store) (fun i => [(2, .ptr S.length 0 0 0), (6, .ptr (S.length + 1) 0 0 0), (7, .ptr (S.length + 2) 0 0 0), (8, .str i.2.2.1)]) (fun i => i.2.2.2.2.2)
      (fun i => PaS S i.1 [] i.2.2.2.1 i.2.2.2.2.1 .nilSl [i.2.2.2.2.1, .nilSl, .int .i64 0, .int .i64 0] i.2.2.2.2.2 ∧ (∀ w ∈ i.2.2.2.1.ws, w ∈ ws) ∧ i.2.2.2.1.ws.length < i.2.1 ∧ i.1.length + i.2.1 ≤ ws.length + 1 ∧ (∀ x ∈ i.1, x.cs.length ≤ 1000000000 ∧ x.ks.length ≤ 1000000000) ∧ itsL (ws.length + 1) city s1 = (i.1 ++ (itsL i.2.1 i.2.2.1 i.2.2.2.1).1, (itsL i.2.1 i.2.2.1 i.2.2.2.1).2))
      (fun i => i.2.1) (fun i hi => by rw [hσ]; have := hi.1.len; omega) ([], ws.length + 1, city, s1, .nilSl, S1) ⟨hP1, hm1, by simp only; omega, by simp, fun x hx => (by cases hx), rfl⟩ (.inl ⟨?_, rfl⟩) ?_
    · simp only [↓evPre, ↓evPreW, evPost, evPostW, evR, evU, seval]
      try rfl
    clear hn2 hn2' hP1
    rintro ⟨acc, n, cy, s, iv, S2⟩ ⟨hP, hms, hk1, hk2, hxs, hit⟩
    simp only at hP hms hk1 hk2 hxs hit ⊢
    obtain ⟨m, rfl⟩ : ∃ m, n = m + 1 := ⟨n - 1, by omega⟩
    simp (disch := first | omega | (simp only [lenT]; omega)) only [evSt, ↓evPre, ↓evPreW, evPost, evPostW, evR, evU, seval]
    refine (next_A hP.rd).then ?_
    by_cases hn2 : (nxF s.ws s.e).length = 2
    · have hn2' : ((nxF s.ws s.e).length : Int) = 2 := by omega
      rw [show itsL (m + 1) cy s = _ from if_pos hn2] at hit
      simp (disch := first | omega | (simp only [lenT]; omega)) only [hn2', evSt, ↓evPre, ↓evPreW, evPost, evPostW, evR, evU, seval]
      refine (hP.item cy (by omega) fun w hw => by have := hwt w (hms w hw); omega).mono ?_
      rintro r S3 ⟨rfl, hP3⟩
      obtain ⟨f1, f2, f3, f4, f5⟩ := itF_len cy s
      have f6 := itF_less cy s hn2
      obtain ⟨t, ht⟩ : ∃ t, (itF cy s).1.cs[(itF cy s).1.cs.length - 1]? = some t := ⟨_, List.getElem?_eq_getElem (by have := List.length_pos_iff.2 f5; omega)⟩
      have hlast : (itF cy s).1.cs.getLast?.getD [] = t := by rw [List.getLast?_eq_getElem?, ht]; rfl
      rw [hlast] at hit
      have hpos := List.length_pos_iff.2 f5
      have hn1 : ((itF cy s).1.cs.length : Int) - 1 = (((itF cy s).1.cs.length - 1 : Nat) : Int) := by omega
      generalize (itF cy s).1 = x at *
      generalize (itF cy s).2 = s3 at *
      have hP4 := hP3.add [⟨0, some (.arr 72 4 [itmR x])⟩]
      have bx := hP4.bx
      unfold itmR at bx
      simp (disch := first | omega | (simp only [lenT]; omega)) only [itmR, txR, wrap_i64, hn1, ht, bx, evSt, ↓evPre, ↓evPreW, evPost, evPostW, evR, evU, seval]
      refine hP4.appI (x := x) (by omega) fun v' S5 hP5 => ?_
      have bx5 := hP5.bx
      have ck := hP5.is.cells
      simp (disch := first | omega | (simp only [lenT]; omega)) only [bx5, ck, evSt, ↓evPre, ↓evPreW, evPost, evPostW, evR, evU, seval]
      refine ⟨(acc ++ [x], m, t, s3, v', _), ⟨hP5.box [v', .nilSl, .int .i64 0, .int .i64 0], fun w hw => hms w (f4 w hw), by simp only; omega, by simp; omega, ?_, by simp only [List.append_assoc, List.singleton_append]; exact hit⟩, by simp only; omega, .inl ⟨by simp only [↓evPre, ↓evPreW, evPost, evPostW, evR, evU, seval]; try rfl, rfl⟩⟩
      intro y hy
      rcases List.mem_append.1 hy with hy | hy
      · exact hxs y hy
      · rw [List.mem_singleton] at hy
        rw [hy]
        exact ⟨by omega, by omega⟩
    · have hn2' : ¬ ((nxF s.ws s.e).length : Int) = 2 := by omega
      rw [show itsL (m + 1) cy s = _ from if_neg hn2] at hit
      simp only [List.append_nil] at hit
      rw [hit]
      simp only
      simp (disch := first | omega | (simp only [lenT]; omega)) only [dF hn2', evSt, ↓evPre, ↓evPreW, evPost, evPostW, evR, evU, seval]
      refine (hP.must faW (by omega)).mono ?_
      intro r S3 hP3
      have hl3 := mu_len faW s
      have hm3 := mu_mem faW s
      generalize muF faW s = s3 at *
      simp (disch := first | omega | (simp only [lenT]; omega)) only [evSt, ↓evPre, ↓evPreW, evPost, evPostW, evR, evU, seval]
      refine (hP3.amount (by omega) fun w hw => by have := hwt w (hms w (hm3 w hw)); omega).mono ?_
      rintro r4 S4 ⟨rfl, hP4⟩
      have hl4 := am_len s3
      have hm4 := am_mem s3
      generalize (amF s3).1 = fare at *
      generalize (amF s3).2 = s4 at *
      have bx4 := hP4.bx
      have ok4 := hP4.is.cellOk
      simp (disch := first | omega | (simp only [lenT]; omega)) only [bx4, ok4, evSt, ↓evPre, ↓evPreW, evPost, evPostW, evR, evU, seval]
      have hacl : acc.length ≤ 1000000 := by omega
      have hs4 : s4.ws.length ≤ ws.length := by omega
      clear hit hk1 hk2
      have hP5 := hP4.box [iv, .nilSl, .int .i64 fare, .int .i64 0]
      refine loopF (ι := List Chg × Nat × Rs × V × Store) (fun i => [(2, .ptr S.length 0 0 0), (6, .ptr (S.length + 1) 0 0 0), (7, .ptr (S.length + 2) 0 0 0)]) (fun i => i.2.2.2.2)
        (fun i => PaS S acc i.1 i.2.2.1 iv i.2.2.2.1 [iv, i.2.2.2.1, .int .i64 fare, .int .i64 0] i.2.2.2.2 ∧ (∀ w ∈ i.2.2.1.ws, w ∈ ws) ∧ i.2.2.1.ws.length < i.2.1 ∧ i.1.length + i.2.1 ≤ ws.length + 1 ∧ txL (ws.length + 1) s4 = (i.1 ++ (txL i.2.1 i.2.2.1).1, (txL i.2.1 i.2.2.1).2))
        (fun i => i.2.1) (fun i hi => by rw [hσ]; have := hi.1.len; omega) ([], ws.length + 1, s4, .nilSl, _) ⟨hP5, fun w hw => hms w (hm3 w (hm4 w hw)), by simp only; omega, by simp, rfl⟩ (.inl ⟨?_, rfl⟩) ?_
      · simp only [↓evPre, ↓evPreW, evPost, evPostW, evR, evU, seval]
        try rfl
      clear hP hP3 hP4 hP5 bx4 ok4 hl3 hm3 hl4 hm4 hms hn2 hn2' s3 s
      rintro ⟨acc2, n, s, tv, S5⟩ ⟨hP, hms, hk1, hk2, hit⟩
      simp only at hP hms hk1 hk2 hit ⊢
      obtain ⟨m2, rfl⟩ : ∃ m, n = m + 1 := ⟨n - 1, by omega⟩
      simp (disch := first | omega | (simp only [lenT]; omega)) only [evSt, ↓evPre, ↓evPreW, evPost, evPostW, evR, evU, seval]
      refine (next_A hP.rd).then ?_
      by_cases hn2 : nxF s.ws s.e = txW
      · rw [show txL (m2 + 1) s = _ from if_pos hn2] at hit
        rw [hn2]
        unfold txW
        simp (disch := first | omega | (simp only [lenT]; omega)) only [evSt, ↓evPre, ↓evPreW, evPost, evPostW, evR, evU, seval]
        refine (hP.word (by omega)).mono ?_
        rintro r6 S6 ⟨rfl, hP6⟩
        have hl6 := wd_len s
        have hm6 := wd_mem s
        have hq6 := nx_tax hn2
        simp (disch := first | omega | (simp only [lenT]; omega)) only [evSt, ↓evPre, ↓evPreW, evPost, evPostW, evR, evU, seval]
        refine (hP6.word (by omega)).mono ?_
        rintro r7 S7 ⟨rfl, hP7⟩
        have hl7 := wd_len (wdF s).2
        have hm7 := wd_mem (wdF s).2
        have hP8 := hP7.add [⟨0, some (.arr 74 2 [[.str (wdF (wdF s).2).1, .int .i64 0]])⟩]
        simp (disch := first | omega | (simp only [lenT]; omega)) only [evSt, ↓evPre, ↓evPreW, evPost, evPostW, evR, evU, seval]
        refine (hP8.amountF (by omega) fun w hw => by have := hwt w (hms w (hm6 w (hm7 w hw))); omega).mono ?_
        rintro r9 S9 ⟨rfl, hP9, f9⟩
        have hl9 := am_len (wdF (wdF s).2).2
        have hm9 := am_mem (wdF (wdF s).2).2
        have hln7 := hP7.len
        have b10 : S9.obj? S7.length 0 = some (74, 2, [[.str (wdF (wdF s).2).1, .int .i64 0]]) := f9.obj (ob_app0.trans ob_head) (by omega)
        have hP10 := hP9.setG (b := S7.length) (by omega) (fun i hi => by have := (hP7.is.lt hi).1; omega) (fun i hi => by have := (hP7.ts.lt hi).1; omega) ⟨0, some (.arr 74 2 [chgR ⟨(wdF (wdF s).2).1, (amF (wdF (wdF s).2).2).1⟩])⟩
        have b10' : Store.obj? (S9.set S7.length ⟨0, some (.arr 74 2 [chgR ⟨(wdF (wdF s).2).1, (amF (wdF (wdF s).2).2).1⟩])⟩) S7.length 0 = some (74, 2, [chgR ⟨(wdF (wdF s).2).1, (amF (wdF (wdF s).2).2).1⟩]) := obj_set b10
        have bx10 := hP10.bx
        unfold chgR at b10' bx10
        simp (disch := first | omega | (simp only [lenT]; omega)) only [b10, b10', bx10, evSt, ↓evPre, ↓evPreW, evPost, evPostW, evR, evU, seval]
        refine hP10.appT (x := ⟨(wdF (wdF s).2).1, (amF (wdF (wdF s).2).2).1⟩) (by omega) fun v' S11 hP11 => ?_
        have bx11 := hP11.bx
        have ck := hP11.ts.cells
        simp (disch := first | omega | (simp only [lenT]; omega)) only [bx11, ck, evSt, ↓evPre, ↓evPreW, evPost, evPostW, evR, evU, seval]
        exact ⟨(acc2 ++ [⟨(wdF (wdF s).2).1, (amF (wdF (wdF s).2).2).1⟩], m2, (amF (wdF (wdF s).2).2).2, v', _), ⟨hP11.box [iv, v', .int .i64 fare, .int .i64 0], fun w hw => hms w (hm6 w (hm7 w (hm9 w hw))), by simp only; omega, by simp; omega, by simp only [List.append_assoc, List.singleton_append]; exact hit⟩, by simp only; omega, .inl ⟨by simp only [↓evPre, ↓evPreW, evPost, evPostW, evR, evU, seval]; try rfl, rfl⟩⟩
      · rw [show txL (m2 + 1) s = _ from if_neg hn2] at hit
        simp only [List.append_nil] at hit
        rw [hit]
        simp only
        unfold txW at hn2
        simp (disch := first | omega | (simp only [lenT]; omega)) only [dF hn2, evSt, ↓evPre, ↓evPreW, evPost, evPostW, evR, evU, seval]
        have hac2 : acc2.length ≤ 1000000 := by omega
        refine (hP.must toW (by omega)).mono ?_
        intro r6 S6 hP6
        have hl6 := mu_len toW s
        have hm6 := mu_mem toW s
        generalize muF toW s = s6 at *
        simp (disch := first | omega | (simp only [lenT]; omega)) only [evSt, ↓evPre, ↓evPreW, evPost, evPostW, evR, evU, seval]
        refine (hP6.amount (by omega) fun w hw => by have := hwt w (hms w (hm6 w hw)); omega).mono ?_
        rintro r7 S7 ⟨rfl, hP7⟩
        generalize (amF s6).1 = tot at *
        have hl7 := am_len s6
        generalize (amF s6).2 = s7 at *
        have bx7 := hP7.bx
        simp (disch := first | omega | (simp only [lenT]; omega)) only [bx7, evSt, ↓evPre, ↓evPreW, evPost, evPostW, evR, evU, seval]
        have hP8 := hP7.box [iv, tv, .int .i64 fare, .int .i64 tot]
        generalize (S7.set (S.length + 2) _) = S8 at hP8 ⊢
        clear hP7 hP6 hP bx7
        have r8 := hP8.rd
        unfold Rd rdR at r8
        unfold e2F
        simp only
        by_cases he : s7.e = 0
        · rw [he] at r8
          by_cases hw0 : 0 < (s7.ws.length : Int)
          · have hne : s7.ws ≠ [] := fun e => by rw [e] at hw0; simp at hw0
            rw [show e1F s7 = 3 from if_pos ⟨he, hne⟩, if_neg (show ¬ (3 : Int) = 0 by decide), if_neg (show ¬ (3 : Int) = 0 by decide)]
            have hP9 : PaS S acc acc2 ⟨s7.ws, 3⟩ iv tv [iv, tv, .int .i64 fare, .int .i64 tot] (S8.set (S.length + 1) ⟨0, some (.arr 94 2 [[.sl 1 (s7.ws.map txR), .int .i64 3]])⟩) := hP8.rds ⟨s7.ws, 3⟩
            simp (disch := first | omega | (simp only [lenT]; omega)) only [r8, dT hw0, evSt, ↓evPre, ↓evPreW, evPost, evPostW, evR, evU, seval]
            generalize (S8.set (S.length + 1) _) = S9 at hP9 ⊢
            have r1 := hP9.rd
            unfold Rd rdR at r1
            try simp only at r1
            have b0 := hP9.b0
            have hob := obj_set (rows' := [[.nilSl, .nilSl, .int .i64 0, .int .i64 0]]) (ver' := 0) b0
            have f := frm_set S9 S.length ⟨0, some (.arr 49 4 [[.nilSl, .nilSl, .int .i64 0, .int .i64 0]])⟩
            have r2 := f.obj r1 (by omega)
            have hbd := fun e => par_bad hn (f.ext hP9.ext fun i hi => by omega) e
            have z0 : decide ((3 : Int) = 0) = false := dF (by decide)
            simp (disch := first | omega | (simp only [lenT]; omega)) only [r1, r2, b0, hob, z0, evSt, ↓evPre, ↓evPreW, evPost, evPostW, evR, evU, seval]
            repeat' refine And.intro ?_ ?_
            all_goals exact hbd _
          · have hne : s7.ws = [] := List.length_eq_zero_iff.1 (by omega)
            rw [show e1F s7 = 0 from (if_neg fun h => h.2 hne).trans he, if_pos rfl]
            have bx8 := hP8.bx
            have ok1 := hP8.is.cellOk
            have ok2 := hP8.ts.cellOk
            simp (disch := first | omega | (simp only [lenT]; omega)) only [r8, dF hw0, bx8, ok1, ok2, evSt, ↓evPre, ↓evPreW, evPost, evPostW, evR, evU, seval]
            refine (lend (args := [.agg [iv, tv, .int .i64 fare, .int .i64 tot]]) (chk_A ⟨acc, acc2, fare, tot⟩ hxs (by simp only; omega) (by simp only; omega) _) ⟨frz_agg (show FrzAll _ _ _ (calR ⟨acc, acc2, fare, tot⟩) from ⟨hP8.is.lent (itmR_imm acc), hP8.ts.lent (chgR_imm acc2), .imm rfl, .imm rfl, trivial⟩), trivial⟩).then ?_
            generalize chkF ⟨acc, acc2, fare, tot⟩ = e2 at *
            have hP9 : PaS S acc acc2 ⟨s7.ws, e2⟩ iv tv [iv, tv, .int .i64 fare, .int .i64 tot] (S8.set (S.length + 1) ⟨0, some (.arr 94 2 [[.sl 1 (s7.ws.map txR), .int .i64 e2]])⟩) := hP8.rds ⟨s7.ws, e2⟩
            simp (disch := first | omega | (simp only [lenT]; omega)) only [r8, bx8, evSt, ↓evPre, ↓evPreW, evPost, evPostW, evR, evU, seval]
            generalize (S8.set (S.length + 1) _) = S9 at hP9 ⊢
            by_cases he2 : e2 = 0
            · subst he2
              rw [if_pos rfl]
              have r1 := hP9.rd
              unfold Rd rdR at r1
              try simp only at r1
              have b0 := hP9.b0
              have bx := hP9.bx
              have hob := obj_set (rows' := [[iv, tv, .int .i64 fare, .int .i64 tot]]) (ver' := 0) b0
              simp (disch := first | omega | (simp only [lenT]; omega)) only [r1, b0, bx, ok1, ok2, hob, evSt, ↓evPre, ↓evPreW, evPost, evPostW, evR, evU, seval]
              exact par_end hn hP9 fare tot _
            · rw [if_neg he2]
              have r1 := hP9.rd
              unfold Rd rdR at r1
              try simp only at r1
              have b0 := hP9.b0
              have hob := obj_set (rows' := [[.nilSl, .nilSl, .int .i64 0, .int .i64 0]]) (ver' := 0) b0
              have f := frm_set S9 S.length ⟨0, some (.arr 49 4 [[.nilSl, .nilSl, .int .i64 0, .int .i64 0]])⟩
              have r2 := f.obj r1 (by omega)
              have hbd := fun e => par_bad hn (f.ext hP9.ext fun i hi => by omega) e
              have z0 : decide ((e2 : Int) = 0) = false := dF he2
              simp (disch := first | omega | (simp only [lenT]; omega)) only [r1, r2, b0, hob, z0, evSt, ↓evPre, ↓evPreW, evPost, evPostW, evR, evU, seval]
              repeat' refine And.intro ?_ ?_
              all_goals exact hbd _
        · rw [show e1F s7 = s7.e from if_neg fun h => he h.1, if_neg he, if_neg he]
          have r1 := hP8.rd
          unfold Rd rdR at r1
          try simp only at r1
          have b0 := hP8.b0
          have hob := obj_set (rows' := [[.nilSl, .nilSl, .int .i64 0, .int .i64 0]]) (ver' := 0) b0
          have f := frm_set S8 S.length ⟨0, some (.arr 49 4 [[.nilSl, .nilSl, .int .i64 0, .int .i64 0]])⟩
          have r2 := f.obj r1 (by omega)
          have hbd := fun e => par_bad hn (f.ext hP8.ext fun i hi => by omega) e
          have z0 : decide ((s7.e : Int) = 0) = false := dF he
          simp (disch := first | omega | (simp only [lenT]; omega)) only [r1, r2, b0, hob, z0, evSt, ↓evPre, ↓evPreW, evPost, evPostW, evR, evU, seval]
          repeat' refine And.intro ?_ ?_
          all_goals exact hbd _
end Go.Proofs.YtkdbghhdklfoiaaDoor
