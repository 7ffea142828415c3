/- The reference's reader: items by index. -/
import Derived.Test.YtkdbghhdklfoiaaDoorSFd7
namespace Go.Proofs.YtkdbghhdklfoiaaDoor
open Go Go.AL Go.RowKit
set_option linter.unusedSectionVars false
variable [Go.AL.Mode] [Go.AL.LooseM]
set_option linter.unusedSimpArgs false
set_option linter.unusedVariables false
theorem rword_A (ws : List Txt) (i : Nat) (hl : ws.length ≤ 1000000) (hi : i ≤ 1000000) (S : Store) : CallA Tryd.prog 69 [.sl 1 (ws.map txR), .int .i64 (i : Nat)] S fun r S' => r = .str (nxF (ws.drop i) 0) ∧ S' = S := by
  refine CallA.keep Tryd.func69 c10069 (Nat.le_of_ble_eq_true rfl) fun σ hσ => ?_
  unfold nxF
  rw [if_pos rfl, List.head?_drop]
  cases hc : ws[i]? with
  | none =>
    have hge : ws.length ≤ i := List.getElem?_eq_none_iff.1 hc
    have hlt : ¬ ((i : Int) < ws.length) := by omega
    simp (disch := first | omega | (simp only [lenT]; omega)) only [a10069, dF hlt, evSt, ↓evPre, ↓evPreW, evPost, evPostW, evR, evU, seval]
    try rfl
  | some w =>
    have hlt' := (List.getElem?_eq_some_iff.1 hc).1
    have hlt : ((i : Int) < ws.length) := by omega
    simp (disch := first | omega | (simp only [lenT]; omega)) only [a10069, dT hlt, hc, txR, evSt, ↓evPre, ↓evPreW, evPost, evPostW, evR, evU, seval]
    try rfl
def amI (ws : List Txt) (i : Nat) : Int × Int := match ws[i]? with
  | some w => mparF w
  | none => (0, 3)
theorem ramount_A (ws : List Txt) (i : Nat) (hl : ws.length ≤ 1000000) (hi : i ≤ 1000000) (hw : ∀ w ∈ ws, w.length ≤ 1000000000) (S : Store) : CallA Tryd.prog 70 [.sl 1 (ws.map txR), .int .i64 (i : Nat)] S fun r S' => r = .tup [.int .i64 (amI ws i).1, .int .i64 (amI ws i).2] ∧ S' = S := by
  refine CallA.keep Tryd.func70 c10070 (Nat.le_of_ble_eq_true rfl) fun σ hσ => ?_
  unfold amI
  cases hc : ws[i]? with
  | none =>
    have hge : ws.length ≤ i := List.getElem?_eq_none_iff.1 hc
    have hlt : ((ws.length : Nat) : Int) ≤ i := by omega
    simp (disch := first | omega | (simp only [lenT]; omega)) only [a10070, dT hlt, evSt, ↓evPre, ↓evPreW, evPost, evPostW, evR, evU, seval]
  | some w =>
    have hlt' := (List.getElem?_eq_some_iff.1 hc).1
    have hlt : ¬ ((ws.length : Nat) : Int) ≤ i := by omega
    have mp := fun S => rmparse_A w (hw w (List.mem_of_getElem? hc)) S
    simp (disch := first | omega | (simp only [lenT]; omega)) only [a10070, dF hlt, hc, txR, evSt, ↓evPre, ↓evPreW, evPost, evPostW, evR, evU, seval]
    refine (mp _).then ?_
    simp (disch := first | omega | (simp only [lenT]; omega)) only [evSt, ↓evPre, ↓evPreW, evPost, evPostW, evR, evU, seval]
def rowK2 (a : Itm × V × V) : List V := [a.2.1, a.2.2, .int .i64 a.1.am, .str a.1.ba]
def idE (a : Itm × V × V) (i : Nat) : Prop := idOf a.2.1 i ∨ idOf a.2.2 i
structure IsR (S : Store) (acc : List (Itm × V × V)) (v : V) (S1 : Store) : Prop where
  l : Lst S.length S1 75 4 (acc.map rowK2) v
  ks : ∀ a ∈ acc, Lst S.length S1 9 1 (a.1.cs.map txR) a.2.1 ∧ Lst S.length S1 9 1 (a.1.ks.map txR) a.2.2 ∧ ∀ i, idE a i → ¬ idOf v i
  ext : ∃ X, S1 = S ++ X
section
variable {S : Store} {acc : List (Itm × V × V)} {v : V} {S1 : Store}
theorem IsR.len (h : IsR S acc v S1) : S.length ≤ S1.length := by
  obtain ⟨X, rfl⟩ := h.ext
  simp
theorem IsR.frm (h : IsR S acc v S1) {D : Nat → Prop} {S2 : Store} (f : Frm D S1 S2) (h0 : ∀ i, D i → S.length ≤ i) (h1 : ∀ i, idOf v i → ¬ D i) (h2 : ∀ a ∈ acc, ∀ i, idE a i → ¬ D i) : IsR S acc v S2 :=
  ⟨h.l.frm f h1, fun a ha => ⟨(h.ks a ha).1.frm f fun i hi => h2 a ha i (.inl hi), (h.ks a ha).2.1.frm f fun i hi => h2 a ha i (.inr hi), (h.ks a ha).2.2⟩, f.ext h.ext h0⟩
theorem IsR.add (h : IsR S acc v S1) (X : Store) : IsR S acc v (S1 ++ X) := h.frm (Frm.add (fun _ => False) S1 X) (fun _ h => h.elim) (fun _ _ h => h) fun _ _ _ _ h => h
theorem IsR.ltE (h : IsR S acc v S1) {a : Itm × V × V} (ha : a ∈ acc) {i : Nat} (hi : idE a i) : i < S1.length ∧ S.length ≤ i := by
  rcases hi with hi | hi
  · exact (h.ks a ha).1.lt hi
  · exact (h.ks a ha).2.1.lt hi
theorem IsR.app (h : IsR S acc v S1) {a : Itm × V × V} {K : V → Store → Prop} (hl : acc.length ≤ 1000000) (hc : Lst S.length S1 9 1 (a.1.cs.map txR) a.2.1) (hk : Lst S.length S1 9 1 (a.1.ks.map txR) a.2.2) (hd : ∀ i, idE a i → ¬ idOf v i)
    (k : ∀ v' S2, IsR S (acc ++ [a]) v' S2 → K v' S2) : appK 75 4 v (some (4, [rowK2 a])) S1 K := by
  have hln := h.len
  refine h.l.app hln (by simpa using hl) fun v' S2 k2 f2 i2 => k v' S2 ⟨by rw [List.map_append]; exact k2, fun b hb => ?_, f2.ext h.ext fun i hi => (h.l.lt hi).2⟩
  have hb2 : Lst S.length S1 9 1 (b.1.cs.map txR) b.2.1 ∧ Lst S.length S1 9 1 (b.1.ks.map txR) b.2.2 ∧ ∀ i, idE b i → ¬ idOf v i := by
    rcases List.mem_append.1 hb with hb | hb
    · exact h.ks b hb
    · rw [List.mem_singleton] at hb
      rw [hb]
      exact ⟨hc, hk, hd⟩
  refine ⟨hb2.1.frm f2 fun i hi => hb2.2.2 i (.inl hi), hb2.2.1.frm f2 fun i hi => hb2.2.2 i (.inr hi), fun i hi hj => ?_⟩
  rcases i2 i hj with hj | hj
  · exact hb2.2.2 i hi hj
  · rcases hi with hi | hi
    · have := (hb2.1.lt hi).1; omega
    · have := (hb2.2.1.lt hi).1; omega
end
structure InR (S : Store) (acc : List (Itm × V × V)) (v : V) (b : Nat) (rc rk : List Txt) (cv kv : V) (row : List V) (S1 : Store) : Prop where
  o : IsR S acc v S1
  bb : S1.obj? b 0 = some (75, 4, [row])
  cl : Lst S.length S1 9 1 (rc.map txR) cv
  kl : Lst S.length S1 9 1 (rk.map txR) kv
  hb : S.length ≤ b
  d1 : ∀ i, idOf v i → i ≠ b ∧ ¬ idOf cv i ∧ ¬ idOf kv i
  d2 : ∀ i, idOf cv i → i ≠ b ∧ ¬ idOf kv i
  d4 : ∀ i, idOf kv i → i ≠ b
  d3 : ∀ a ∈ acc, ∀ i, idE a i → i ≠ b ∧ ¬ idOf cv i ∧ ¬ idOf kv i
section
variable {S : Store} {acc : List (Itm × V × V)} {v : V} {b : Nat} {rc rk : List Txt} {cv kv : V} {row : List V} {S1 : Store}
theorem IsR.start (h : IsR S acc v S1) (c : Txt) : InR S acc v (S1.length + 1) [c] [] (.msl S1.length 0 0 1) .nilSl [.msl S1.length 0 0 1, .nilSl, .int .i64 0, .str []] (S1 ++ [⟨0, some (.arr 9 1 [[.str c]])⟩, ⟨0, some (.arr 75 4 [[.msl S1.length 0 0 1, .nilSl, .int .i64 0, .str []]])⟩]) := by
  have hln := h.len
  refine ⟨h.add _, by rw [ob_app, ob_cons, ob_head], .inr ⟨S1.length, 0, hln, rfl, ob_app0.trans ob_head⟩, .inl ⟨rfl, rfl⟩, by omega, fun i hi => ⟨by have := (h.l.lt hi).1; omega, fun ⟨_, _, _, e⟩ => (by have := (h.l.lt hi).1; cases e; omega), fun ⟨_, _, _, e⟩ => (by cases e)⟩, fun i ⟨_, _, _, e⟩ => ⟨by cases e; omega, fun ⟨_, _, _, e⟩ => (by cases e)⟩, fun i ⟨_, _, _, e⟩ => (by cases e), fun a ha i hi => ⟨by have := (h.ltE ha hi).1; omega, fun ⟨_, _, _, e⟩ => (by have := (h.ltE ha hi).1; cases e; omega), fun ⟨_, _, _, e⟩ => (by cases e)⟩⟩
theorem InR.add (h : InR S acc v b rc rk cv kv row S1) (X : Store) : InR S acc v b rc rk cv kv row (S1 ++ X) := by
  have f := Frm.add (fun _ => False) S1 X
  exact ⟨h.o.add X, f.obj h.bb id, h.cl.frm f fun _ _ h => h, h.kl.frm f fun _ _ h => h, h.hb, h.d1, h.d2, h.d4, h.d3⟩
theorem InR.box (h : InR S acc v b rc rk cv kv row S1) (row2 : List V) : InR S acc v b rc rk cv kv row2 (S1.set b ⟨0, some (.arr 75 4 [row2])⟩) := by
  have f := frm_set S1 b ⟨0, some (.arr 75 4 [row2])⟩
  exact ⟨h.o.frm f (fun i hi => by rw [hi]; exact h.hb) (fun i hi => (h.d1 i hi).1) fun a ha i hi => (h.d3 a ha i hi).1, obj_set h.bb, h.cl.frm f fun i hi => (h.d2 i hi).1, h.kl.frm f fun i hi => h.d4 i hi, h.hb, h.d1, h.d2, h.d4, h.d3⟩
theorem InR.appK (h : InR S acc v b rc rk cv kv row S1) {w : Txt} {K : V → Store → Prop} (hl : rk.length ≤ 1000000) (k : ∀ v' S2, InR S acc v b rc (rk ++ [w]) cv v' row S2 → v'.cells? = some [v'] → K v' S2) : appK 9 1 kv (some (1, [[.str w]])) S1 K := by
  have hln := h.o.len
  have hbl := obj_lt h.bb
  refine h.kl.app hln (by simpa using hl) fun v' S2 k2 f2 i2 => k v' S2 ⟨h.o.frm f2 (fun i hi => (h.kl.lt hi).2) (fun i hi => (h.d1 i hi).2.2) (fun a ha i hi => (h.d3 a ha i hi).2.2), f2.obj h.bb (fun hi => h.d4 _ hi rfl), h.cl.frm f2 (fun i hi => (h.d2 i hi).2), by rw [List.map_append]; exact k2, h.hb, fun i hi => ⟨(h.d1 i hi).1, (h.d1 i hi).2.1, fun hj => ?_⟩, fun i hi => ⟨(h.d2 i hi).1, fun hj => ?_⟩, fun i hi => ?_, fun a ha i hi => ⟨(h.d3 a ha i hi).1, (h.d3 a ha i hi).2.1, fun hj => ?_⟩⟩ k2.cells
  · rcases i2 i hj with hj | hj
    · exact (h.d1 i hi).2.2 hj
    · have := (h.o.l.lt hi).1; omega
  · rcases i2 i hj with hj | hj
    · exact (h.d2 i hi).2 hj
    · have := (h.cl.lt hi).1; omega
  · rcases i2 i hi with hi | hi
    · exact h.d4 i hi
    · omega
  · rcases i2 i hj with hj | hj
    · exact (h.d3 a ha i hi).2.2 hj
    · have := (h.o.ltE ha hi).1; omega
theorem InR.appC (h : InR S acc v b rc rk cv kv row S1) {w : Txt} {K : V → Store → Prop} (hl : rc.length ≤ 1000000) (k : ∀ v' S2, InR S acc v b (rc ++ [w]) rk v' kv row S2 → v'.cells? = some [v'] → K v' S2) : AL.appK 9 1 cv (some (1, [[.str w]])) S1 K := by
  have hln := h.o.len
  have hbl := obj_lt h.bb
  refine h.cl.app hln (by simpa using hl) fun v' S2 k2 f2 i2 => k v' S2 ⟨h.o.frm f2 (fun i hi => (h.cl.lt hi).2) (fun i hi => (h.d1 i hi).2.1) (fun a ha i hi => (h.d3 a ha i hi).2.1), f2.obj h.bb (fun hi => (h.d2 _ hi).1 rfl), by rw [List.map_append]; exact k2, h.kl.frm f2 (fun i hi hk => (h.d2 i hk).2 hi), h.hb, fun i hi => ⟨(h.d1 i hi).1, fun hj => ?_, (h.d1 i hi).2.2⟩, fun i hi => ?_, h.d4, fun a ha i hi => ⟨(h.d3 a ha i hi).1, fun hj => ?_, (h.d3 a ha i hi).2.2⟩⟩ k2.cells
  · rcases i2 i hj with hj | hj
    · exact (h.d1 i hi).2.1 hj
    · have := (h.o.l.lt hi).1; omega
  · rcases i2 i hi with hi | hi
    · exact h.d2 i hi
    · exact ⟨by omega, fun hj => by have := (h.kl.lt hj).1; omega⟩
  · rcases i2 i hj with hj | hj
    · exact (h.d3 a ha i hi).2.1 hj
    · have := (h.o.ltE ha hi).1; omega
end
theorem isr_frz {S : Store} {acc : List (Itm × V × V)} {v : V} {S1 : Store} (hn : Neat S) (h : IsR S acc v S1) : Fgt S1 S ∧ Frz S1 S v (.sl 4 ((acc.map (·.1)).map itmR)) := by
  obtain ⟨X, hX⟩ := h.ext
  refine ⟨by rw [hX]; exact hn.fgt _, ?_⟩
  have him := itmR_imm (acc.map (·.1))
  rcases h.l with ⟨rfl, hr⟩ | ⟨c, ver, g1, rfl, g3⟩
  · have : acc = [] := by cases acc with | nil => rfl | cons a l => cases hr
    subst this
    exact .nil
  · refine .msl (fun o ho => ?_) g3 (.inl rfl) (by simp) (fun i r hi => (him r (List.mem_of_getElem? hi)).1) (fun i r hi j w hj q x hq hx => ?_) (fun i r hi j w hj => V.allImm_get (him r (List.mem_of_getElem? hi)).2 j w hj)
    · have := (List.getElem?_eq_some_iff.1 ho).1
      omega
    · rw [Nat.zero_add, List.getElem?_map] at hq
      rw [List.map_map, List.getElem?_map] at hi
      obtain ⟨a, ha, rfl⟩ := Option.map_eq_some_iff.1 hq
      rw [ha] at hi
      simp only [Option.map_some, Option.some.injEq, Function.comp_apply] at hi
      subst hi
      obtain ⟨h1, h2, _⟩ := h.ks a (List.mem_of_getElem? ha)
      match j with
      | 0 =>
        simp only [itmR, rowK2, List.getElem?_cons_zero, Option.some.injEq] at hj hx
        subst hj hx
        exact h1.frz (Nat.le_refl _) (tx_imm _)
      | 1 =>
        simp only [itmR, rowK2, List.getElem?_cons_zero, List.getElem?_cons_succ, Option.some.injEq] at hj hx
        subst hj hx
        exact h2.frz (Nat.le_refl _) (tx_imm _)
      | 2 => simp only [itmR, rowK2, List.getElem?_cons_zero, List.getElem?_cons_succ, Option.some.injEq] at hj hx; subst hj hx; exact .imm rfl
      | 3 => simp only [itmR, rowK2, List.getElem?_cons_zero, List.getElem?_cons_succ, Option.some.injEq] at hj hx; subst hj hx; exact .imm rfl
      | j + 4 => simp [itmR] at hj
theorem wd_bad {s : Rs} (h : s.e ≠ 0) : wdF s = ([], s) := if_neg h
theorem am_bad {s : Rs} (h : s.e ≠ 0) : amF s = (0, s) := by
  unfold amF
  rw [wd_bad h]
  exact if_neg h
theorem nx_bad {s : Rs} (h : s.e ≠ 0) : nxF s.ws s.e = [] := if_neg h
theorem mu_bad {s : Rs} (c : Txt) (h : s.e ≠ 0) : muF c s = s := by
  unfold muF
  rw [wd_bad h]
  exact if_neg fun k => h k.2
theorem tx_bad {s : Rs} (n : Nat) (h : s.e ≠ 0) : txL n s = ([], s) := by
  cases n with
  | zero => rfl
  | succ n =>
    rw [txL, nx_bad h]
    exact if_neg (by decide)
theorem its_bad {s : Rs} (n : Nat) (c : Txt) (h : s.e ≠ 0) : itsL n c s = ([], s) := by
  cases n with
  | zero => rfl
  | succ n =>
    rw [itsL, nx_bad h]
    exact if_neg (by decide)
theorem e2_bad {c : Cal} {s : Rs} (h : s.e ≠ 0) : e2F (c, s) = s.e := by
  have h1 : e1F s = s.e := if_neg fun k => h k.1
  unfold e2F
  rw [h1]
  exact if_neg h
theorem par_its {ws : List Txt} {w : Txt} {l : List Txt} {e : Int} (hw : ws = w :: l) (h2 : (nxF l 0).length = 2) (he : (itsL (ws.length + 1) w ⟨l, 0⟩).2.e = e) (h0 : e ≠ 0) : parW ws = (zCal, e) := by
  subst hw
  have hb : (itsL ((w :: l).length + 1) w ⟨l, 0⟩).2.e ≠ 0 := by rw [he]; exact h0
  have hr : e2F (rdF (w :: l)) = e := by
    unfold rdF
    simp only [wd_cons]
    rw [mu_bad _ hb, am_bad hb]
    simp only
    rw [tx_bad _ hb]
    simp only
    rw [mu_bad _ hb, am_bad hb]
    simp only
    rw [e2_bad hb, he]
  unfold parW
  refine (if_pos (show (nxF (wdF ⟨w :: l, 0⟩).2.ws (wdF ⟨w :: l, 0⟩).2.e).length = 2 from h2)).trans ?_
  rw [hr, if_neg h0]
end Go.Proofs.YtkdbghhdklfoiaaDoor
/- The reference's items. -/
namespace Go.Proofs.YtkdbghhdklfoiaaDoor
open Go Go.AL Go.RowKit
set_option linter.unusedSectionVars false
variable [Go.AL.Mode] [Go.AL.LooseM]
set_option linter.unusedSimpArgs false
set_option linter.unusedVariables false
theorem frz_tupA {S S1 : Store} {vs ws : List V} (h : FrzAll S S1 vs ws) : Frz S S1 (.tup vs) (.tup ws) := .tup h.get.1 h.get.2
theorem itL_one (k : Txt) (m : Nat) : itL (m + 1) ⟨[k], 0⟩ = ([(k, [])], ⟨[], 3⟩) := rfl
theorem itL_two (k c : Txt) (r : List Txt) (m : Nat) : itL (m + 1) ⟨k :: c :: r, 0⟩ = if (nxF r 0).length = 2 then ((k, c) :: (itL m ⟨r, 0⟩).1, (itL m ⟨r, 0⟩).2) else ([(k, c)], ⟨r, 0⟩) := rfl
theorem itF_bad {city : Txt} {s : Rs} {l : List (Txt × Txt) × Rs} (h : itL (s.ws.length + 1) s = l) (hb : l.2.e ≠ 0) : (itF city s).2.e = l.2.e := by
  unfold itF
  simp only
  rw [h, am_bad hb]
  simp only
  rw [wd_bad hb]
theorem itF_mid {city : Txt} {s : Rs} {l : List (Txt × Txt)} {r : List Txt} (h : itL (s.ws.length + 1) s = (l, ⟨r, 0⟩)) : itF city s = (⟨city :: l.map (·.2), l.map (·.1), (amF ⟨r, 0⟩).1, (wdF (amF ⟨r, 0⟩).2).1⟩, (wdF (amF ⟨r, 0⟩).2).2) := by
  unfold itF
  simp only
  rw [h]
theorem its_err {n : Nat} {c : Txt} {s : Rs} {e : Int} (h2 : (nxF s.ws s.e).length = 2) (he : (itF c s).2.e = e) (h0 : e ≠ 0) : (itsL (n + 1) c s).2.e = e := by
  rw [itsL, if_pos h2]
  simp only
  rw [its_bad n _ (by rw [he]; exact h0)]
  exact he
theorem par_no {ws : List Txt} (h : ¬ (nxF (ws.drop 1) 0).length = 2) : parW ws = (zCal, 3) := by
  cases ws with
  | nil => rfl
  | cons w l =>
    unfold parW
    rw [wd_cons]
    exact if_neg h
def ItsG (ws : List Txt) (its : List Itm) (i : Int) : Prop := ∃ (w : Txt) (l : List Txt) (j : Nat), i = ((j : Nat) : Int) ∧ ws = w :: l ∧ (nxF l 0).length = 2 ∧ j ≤ ws.length ∧ itsL (ws.length + 1) w ⟨l, 0⟩ = (its, ⟨ws.drop j, 0⟩) ∧ its.length ≤ ws.length ∧ ∀ x ∈ its, x.cs.length ≤ 1000000000 ∧ x.ks.length ≤ 1000000000
def ItsR (ws : List Txt) (r : V) : Prop := ∃ (its : List Itm) (i e : Int), r = .tup [.sl 4 (its.map itmR), .int .i64 i, .int .i64 e] ∧ ((e = 0 ∧ ItsG ws its i) ∨ (e ≠ 0 ∧ parW ws = (zCal, e)))
set_option maxHeartbeats 4000000 in
theorem ritems_A (ws : List Txt) (hl : ws.length ≤ 100000) (hw : ∀ w ∈ ws, w.length ≤ 1000000) (S : Store) : CallA Tryd.prog 41 [.sl 1 (ws.map txR)] S fun r S' => ItsR ws r ∧ S' = S := by
  refine CallA.withNeat Tryd.func41 c10041 fun hn => ?_
  refine CallA.fin Tryd.func41 c10041 (Nat.le_of_ble_eq_true rfl) fun σ hσ => ?_
  have w0 : ∀ S, CallA Tryd.prog 69 [.sl 1 (ws.map txR), .int .i64 0] S fun r S' => r = .str (nxF ws 0) ∧ S' = S := fun S => rword_A ws 0 (by omega) (by omega) S
  have w1 : ∀ S, CallA Tryd.prog 69 [.sl 1 (ws.map txR), .int .i64 1] S fun r S' => r = .str (nxF (ws.drop 1) 0) ∧ S' = S := fun S => rword_A ws 1 (by omega) (by omega) S
  have wi : ∀ (i : Nat) (S : Store), i ≤ ws.length → CallA Tryd.prog 69 [.sl 1 (ws.map txR), .int .i64 (i : Nat)] S fun r S' => r = .str (nxF (ws.drop i) 0) ∧ S' = S := fun i S h => rword_A ws i (by omega) (by omega) S
  simp (disch := first | omega | (simp only [lenT]; omega)) only [a10041, evSt, ↓evPre, ↓evPreW, evPost, evPostW, evR, evU, seval]
  refine (w0 _).then ?_
  simp (disch := first | omega | (simp only [lenT]; omega)) only [evSt, ↓evPre, ↓evPreW, evPost, evPostW, evR, evU, seval]
  refine (w1 _).then ?_
  by_cases h2 : (nxF (ws.drop 1) 0).length = 2
  case neg =>
    have h2' : ¬ ((nxF (ws.drop 1) 0).length : Int) = 2 := by omega
    simp (disch := first | omega | (simp only [lenT]; omega)) only [dF h2', evSt, ↓evPre, ↓evPreW, evPost, evPostW, evR, evU, seval]
    exact ⟨_, S, hn.self, frz_tupA (show FrzAll _ _ _ [.sl 4 [], .int .i64 0, .int .i64 3] from ⟨.nil, .imm rfl, .imm rfl, trivial⟩), Nat.le_refl _, ⟨[], 0, 3, rfl, .inr ⟨by decide, par_no h2⟩⟩, rfl⟩
  have h2' : ((nxF (ws.drop 1) 0).length : Int) = 2 := by omega
  obtain ⟨w, l, hws⟩ : ∃ w l, ws = w :: l := by
    cases ws with
    | nil => exact absurd h2 (by decide)
    | cons w l => exact ⟨w, l, rfl⟩
  have hd1 : ws.drop 1 = l := by rw [hws]; rfl
  have hn0 : nxF ws 0 = w := by rw [hws]; rfl
  have hlen : ws.length = l.length + 1 := by rw [hws]; rfl
  have h2l : (nxF l 0).length = 2 := by rw [← hd1]; exact h2
  obtain ⟨N, hN⟩ : ∃ N, N = ws.length + 1 := ⟨_, rfl⟩
  have badO : ∀ (e : Int) (S2 : Store), (∃ X, S2 = S ++ X) → e ≠ 0 → (itsL N w ⟨l, 0⟩).2.e = e → ∃ r1 S3, Fgt S2 S3 ∧ Frz S2 S3 (.tup [.nilSl, .int .i64 0, .int .i64 e]) r1 ∧ S.length ≤ S3.length ∧ ItsR ws r1 ∧ S3 = S := fun e S2 hx h0 he => by
    obtain ⟨X, rfl⟩ := hx
    rw [hN] at he
    exact ⟨_, S, hn.fgt _, frz_tupA (show FrzAll _ _ _ [.sl 4 [], .int .i64 0, .int .i64 e] from ⟨.nil, .imm rfl, .imm rfl, trivial⟩), Nat.le_refl _, ⟨[], 0, e, rfl, .inr ⟨h0, par_its hws h2l he h0⟩⟩, rfl⟩
  rw [hn0]
  simp (disch := first | omega | (simp only [lenT]; omega)) only [h2', evSt, ↓evPre, ↓evPreW, evPost, evPostW, evR, evU, seval]
  refine loopF (ι := List (Itm × V × V) × Nat × Nat × Txt × V × Store) (fun i => [(0, .sl 1 (ws.map txR)), (5, i.2.2.2.2.1), (6, .int .i64 i.2.2.1), (7, .str i.2.2.2.1)]) (fun i => i.2.2.2.2.2)
    (fun i => IsR S i.1 i.2.2.2.2.1 i.2.2.2.2.2 ∧ i.2.2.1 ≤ ws.length ∧ ws.length < i.2.2.1 + i.2.1 ∧ i.1.length ≤ i.2.2.1 ∧ (∀ a ∈ i.1, a.1.cs.length ≤ 1000000000 ∧ a.1.ks.length ≤ 1000000000) ∧ itsL N w ⟨l, 0⟩ = (i.1.map (·.1) ++ (itsL i.2.1 i.2.2.2.1 ⟨ws.drop i.2.2.1, 0⟩).1, (itsL i.2.1 i.2.2.2.1 ⟨ws.drop i.2.2.1, 0⟩).2)) (fun i => i.2.1)
    (fun i hi => by rw [hσ]; exact hi.1.len) ([], N, 1, w, .nilSl, S) ⟨⟨.inl ⟨rfl, rfl⟩, fun a ha => (by cases ha), ⟨[], by simp⟩⟩, by simp only; omega, by simp only; omega, Nat.zero_le _, fun a ha => (by cases ha), by simp only [hd1, List.map_nil, List.nil_append]⟩ (.inl ⟨?_, rfl⟩) ?_
  · simp only [↓evPre, ↓evPreW, evPost, evPostW, evR, evU, seval]
    try rfl
  clear h2 h2' hd1 w0 w1
  rintro ⟨acc, n, i, last, v, S1⟩ ⟨hI, hi, hin, hal, hax, hit⟩
  simp only at hI hi hin hal hax hit ⊢
  obtain ⟨m, rfl⟩ : ∃ m, n = m + 1 := ⟨n - 1, by omega⟩
  simp (disch := first | omega | (simp only [lenT]; omega)) only [evSt, ↓evPre, ↓evPreW, evPost, evPostW, evR, evU, seval]
  refine (wi i _ hi).then ?_
  by_cases h3 : (nxF (ws.drop i) 0).length = 2
  case neg =>
    have h3' : ¬ ((nxF (ws.drop i) 0).length : Int) = 2 := by omega
    rw [show itsL (m + 1) last ⟨ws.drop i, 0⟩ = _ from if_neg h3] at hit
    simp only [List.append_nil] at hit
    simp (disch := first | omega | (simp only [lenT]; omega)) only [dF h3', evSt, ↓evPre, ↓evPreW, evPost, evPostW, evR, evU, seval]
    obtain ⟨f1, f2⟩ := isr_frz hn hI
    refine ⟨_, S, f1, frz_tupA (show FrzAll _ _ _ [.sl 4 ((acc.map (·.1)).map itmR), .int .i64 (i : Nat), .int .i64 0] from ⟨f2, .imm rfl, .imm rfl, trivial⟩), Nat.le_refl _, ⟨acc.map (·.1), (i : Nat), 0, rfl, .inl ⟨rfl, w, l, i, rfl, hws, h2l, hi, by rw [← hN]; exact hit, by rw [List.length_map]; omega, fun x hx => ?_⟩⟩, rfl⟩
    obtain ⟨a, ha, rfl⟩ := List.mem_map.1 hx
    exact hax a ha
  have h3' : ((nxF (ws.drop i) 0).length : Int) = 2 := by omega
  have hstep : ∀ (x : Itm) (s' : Rs), itF last ⟨ws.drop i, 0⟩ = (x, s') → itsL N w ⟨l, 0⟩ = (acc.map (·.1) ++ x :: (itsL m (x.cs.getLast?.getD []) s').1, (itsL m (x.cs.getLast?.getD []) s').2) := fun x s' h => by
    rw [show itsL (m + 1) last ⟨ws.drop i, 0⟩ = _ from if_pos h3, h] at hit
    exact hit
  have hbadI : ∀ (e : Int) (S2 : Store), (∃ X, S2 = S ++ X) → e ≠ 0 → (itF last ⟨ws.drop i, 0⟩).2.e = e → ∃ r1 S3, Fgt S2 S3 ∧ Frz S2 S3 (.tup [.nilSl, .int .i64 0, .int .i64 e]) r1 ∧ S.length ≤ S3.length ∧ ItsR ws r1 ∧ S3 = S := fun e S2 hx h0 he => badO e S2 hx h0 (by
    rw [hit]
    exact its_err h3 he h0)
  have hst := hI.start last
  obtain ⟨b, hb⟩ : ∃ b, b = S1.length + 1 := ⟨_, rfl⟩
  rw [← hb] at hst
  simp (disch := first | omega | (simp only [lenT]; omega)) only [h3', evSt, ↓evPre, ↓evPreW, evPost, evPostW, evR, evU, seval]
  obtain ⟨N0, hN0⟩ : ∃ N0, N0 = (ws.drop i).length + 1 := ⟨_, rfl⟩
  have hN0' : N0 + i = ws.length + 1 := by rw [hN0, List.length_drop]; omega
  refine loopF (ι := List (Txt × Txt) × Nat × Nat × Txt × V × V × Store) (fun q => [(0, .sl 1 (ws.map txR)), (5, v), (6, .int .i64 q.2.2.1), (7, .str q.2.2.2.1), (8, .ptr b 0 0 0)]) (fun q => q.2.2.2.2.2.2)
    (fun q => InR S acc v b (last :: q.1.map (·.2)) (q.1.map (·.1)) q.2.2.2.2.1 q.2.2.2.2.2.1 [q.2.2.2.2.1, q.2.2.2.2.2.1, .int .i64 0, .str []] q.2.2.2.2.2.2 ∧ q.2.2.1 ≤ ws.length ∧ q.2.2.1 = i + 2 * q.1.length ∧ ws.length < q.2.2.1 + q.2.1 ∧ (last :: q.1.map (·.2)).getLast?.getD [] = q.2.2.2.1 ∧ itL N0 ⟨ws.drop i, 0⟩ = if (nxF (ws.drop q.2.2.1) 0).length = 2 then (q.1 ++ (itL q.2.1 ⟨ws.drop q.2.2.1, 0⟩).1, (itL q.2.1 ⟨ws.drop q.2.2.1, 0⟩).2) else (q.1, ⟨ws.drop q.2.2.1, 0⟩)) (fun q => q.2.1)
    (fun q hq => by rw [hσ]; exact hq.1.o.len) ([], N0, i, last, .msl S1.length 0 0 1, .nilSl, _) ⟨hst, hi, by simp, by simp only; omega, rfl, by simp only [List.nil_append]; rw [if_pos h3]⟩ (.inl ⟨?_, rfl⟩) ?_
  · rw [hb]
    simp only [↓evPre, ↓evPreW, evPost, evPostW, evR, evU, seval]
    try rfl
  clear hst hI hb h3' S1
  rintro ⟨pl, n, j, lt, cv, kv, S3⟩ ⟨hP, hj, hji, hjn, hlt, hil⟩
  simp only at hP hj hji hjn hlt hil ⊢
  have hx3 := hP.o.ext
  simp (disch := first | omega | (simp only [lenT]; omega)) only [evSt, ↓evPre, ↓evPreW, evPost, evPostW, evR, evU, seval]
  refine (wi j _ hj).then ?_
  by_cases h4 : (nxF (ws.drop j) 0).length = 2
  · have h4' : ((nxF (ws.drop j) 0).length : Int) = 2 := by omega
    rw [if_pos h4] at hil
    obtain ⟨g, rfl⟩ : ∃ g, n = g + 1 := ⟨n - 1, by omega⟩
    obtain ⟨k, hk⟩ : ∃ k, ws[j]? = some k := by
      cases hc : ws[j]? with
      | none =>
        rw [List.drop_of_length_le (List.getElem?_eq_none_iff.1 hc)] at h4
        exact absurd h4 (by decide)
      | some k => exact ⟨k, rfl⟩
    have hjl := (List.getElem?_eq_some_iff.1 hk).1
    have hj1 : (j : Int) + 1 = ((j + 1 : Nat) : Int) := by omega
    have hj2 : (j : Int) + 2 = ((j + 2 : Nat) : Int) := by omega
    rw [drop_at hk] at hil
    cases hc : ws[j + 1]? with
    | none =>
      have hge := List.getElem?_eq_none_iff.1 hc
      have hgi : ((ws.length : Nat) : Int) ≤ ((j + 1 : Nat) : Int) := by omega
      rw [List.drop_of_length_le hge, itL_one] at hil
      simp (disch := first | omega | (simp only [lenT]; omega)) only [h4', dT hgi, wrap_i64, hj1, evSt, ↓evPre, ↓evPreW, evPost, evPostW, evR, evU, seval]
      refine hbadI 3 _ hx3 (by decide) ?_
      exact itF_bad (city := last) (s := ⟨ws.drop i, 0⟩) (l := (pl ++ [(k, [])], ⟨[], 3⟩)) (by rw [← hN0]; exact hil) (show (3 : Int) ≠ 0 by decide)
    | some c =>
      have hgl := (List.getElem?_eq_some_iff.1 hc).1
      have hgi : ¬ ((ws.length : Nat) : Int) ≤ ((j + 1 : Nat) : Int) := by omega
      rw [drop_at hc, show j + 1 + 1 = j + 2 from rfl, itL_two] at hil
      have bb := hP.bb
      have hil2 : itL N0 ⟨ws.drop i, 0⟩ = if (nxF (ws.drop (j + 2)) 0).length = 2 then (pl ++ [(k, c)] ++ (itL g ⟨ws.drop (j + 2), 0⟩).1, (itL g ⟨ws.drop (j + 2), 0⟩).2) else (pl ++ [(k, c)], ⟨ws.drop (j + 2), 0⟩) := by
        rw [hil]
        by_cases h5 : (nxF (ws.drop (j + 2)) 0).length = 2
        · rw [if_pos h5, if_pos h5]
          simp
        · rw [if_neg h5, if_neg h5]
      have hlc : (last :: (pl ++ [(k, c)]).map (·.2)).getLast?.getD [] = c := by
        simp only [List.map_append, List.map_cons, List.map_nil, ← List.cons_append]
        rw [List.getLast?_concat]
        rfl
      simp (disch := first | omega | (simp only [lenT]; omega)) only [h4', dF hgi, wrap_i64, hj1, hk, hc, bb, txR, evSt, ↓evPre, ↓evPreW, evPost, evPostW, evR, evU, seval]
      repeat' refine And.intro ?_ ?_
      all_goals
        first
        | (refine hP.appK (w := k) (by simp; omega) fun kv' S4 hK ck => ?_
           have b4 := hK.bb
           simp (disch := first | omega | (simp only [lenT]; omega)) only [b4, evSt, ↓evPre, ↓evPreW, evPost, evPostW, evR, evU, seval]
           repeat' refine And.intro ?_ ?_
           all_goals
             refine hK.appC (w := c) (by simp; omega) fun cv' S5 hC cc => ?_
             have b5 := hC.bb
             have hbx1 := hC.box [cv, kv', .int .i64 0, .str []]
             have b6 := hbx1.bb
             have hbx2 := hbx1.box [cv', kv', .int .i64 0, .str []]
             simp (disch := first | omega | (simp only [lenT]; omega)) only [b5, b6, ck, cc, wrap_i64, hj2, evSt, ↓evPre, ↓evPreW, evPost, evPostW, evR, evU, seval]
             exact ⟨(pl ++ [(k, c)], g, j + 2, c, cv', kv', _), ⟨by simp only [List.map_append, List.map_cons, List.map_nil, ← List.cons_append]; exact hbx2, by simp only; omega, by simp only [List.length_append, List.length_singleton]; omega, by simp only; omega, hlc, hil2⟩, by simp only; omega, .inl ⟨by simp only [↓evPre, ↓evPreW, evPost, evPostW, evR, evU, seval]; try rfl, rfl⟩⟩)
        | (refine hP.appC (w := c) (by simp; omega) fun cv' S4 hC cc => ?_
           have b4 := hC.bb
           simp (disch := first | omega | (simp only [lenT]; omega)) only [b4, evSt, ↓evPre, ↓evPreW, evPost, evPostW, evR, evU, seval]
           repeat' refine And.intro ?_ ?_
           all_goals
             refine hC.appK (w := k) (by simp; omega) fun kv' S5 hK ck => ?_
             have b5 := hK.bb
             have hbx1 := hK.box [cv, kv', .int .i64 0, .str []]
             have b6 := hbx1.bb
             have hbx2 := hbx1.box [cv', kv', .int .i64 0, .str []]
             simp (disch := first | omega | (simp only [lenT]; omega)) only [b5, b6, ck, cc, wrap_i64, hj2, evSt, ↓evPre, ↓evPreW, evPost, evPostW, evR, evU, seval]
             exact ⟨(pl ++ [(k, c)], g, j + 2, c, cv', kv', _), ⟨by simp only [List.map_append, List.map_cons, List.map_nil, ← List.cons_append]; exact hbx2, by simp only; omega, by simp only [List.length_append, List.length_singleton]; omega, by simp only; omega, hlc, hil2⟩, by simp only; omega, .inl ⟨by simp only [↓evPre, ↓evPreW, evPost, evPostW, evR, evU, seval]; try rfl, rfl⟩⟩)
  · have h4' : ¬ ((nxF (ws.drop j) 0).length : Int) = 2 := by omega
    rw [if_neg h4] at hil
    have hmid := itF_mid (city := last) (s := ⟨ws.drop i, 0⟩) (l := pl) (r := ws.drop j) (by rw [← hN0]; exact hil)
    have ra := fun S => ramount_A ws j (by omega) (by omega) (fun w h => by have := hw w h; omega) S
    unfold amI at ra
    have hj1 : (j : Int) + 1 = ((j + 1 : Nat) : Int) := by omega
    have hj2 : (j : Int) + 2 = ((j + 2 : Nat) : Int) := by omega
    simp (disch := first | omega | (simp only [lenT]; omega)) only [dF h4', evSt, ↓evPre, ↓evPreW, evPost, evPostW, evR, evU, seval]
    refine (ra _).then ?_
    cases hc : ws[j]? with
    | none =>
      rw [List.drop_of_length_le (List.getElem?_eq_none_iff.1 hc)] at hmid
      simp (disch := first | omega | (simp only [lenT]; omega)) only [evSt, ↓evPre, ↓evPreW, evPost, evPostW, evR, evU, seval]
      refine hbadI 3 _ hx3 (by decide) ?_
      rw [hmid]
      rfl
    | some a =>
      have hjl := (List.getElem?_eq_some_iff.1 hc).1
      rw [drop_at hc] at hmid
      have ham : amF ⟨a :: ws.drop (j + 1), 0⟩ = ((mparF a).1, ⟨ws.drop (j + 1), (mparF a).2⟩) := rfl
      rw [ham] at hmid
      simp only at hmid
      clear ra
      generalize (mparF a).1 = am at *
      generalize (mparF a).2 = e at *
      by_cases he : e = 0
      case neg =>
        simp (disch := first | omega | (simp only [lenT]; omega)) only [dF he, evSt, ↓evPre, ↓evPreW, evPost, evPostW, evR, evU, seval]
        refine hbadI e _ hx3 he ?_
        rw [hmid]
        simp only
        rw [wd_bad he]
      subst he
      cases hc2 : ws[j + 1]? with
      | none =>
        have hge := List.getElem?_eq_none_iff.1 hc2
        have hgi : ((ws.length : Nat) : Int) ≤ ((j + 1 : Nat) : Int) := by omega
        rw [List.drop_of_length_le hge] at hmid
        simp (disch := first | omega | (simp only [lenT]; omega)) only [dT hgi, wrap_i64, hj1, evSt, ↓evPre, ↓evPreW, evPost, evPostW, evR, evU, seval]
        refine hbadI 3 _ hx3 (by decide) ?_
        rw [hmid]
        rfl
      | some ba =>
        have hgl := (List.getElem?_eq_some_iff.1 hc2).1
        have hgi : ¬ ((ws.length : Nat) : Int) ≤ ((j + 1 : Nat) : Int) := by omega
        rw [drop_at hc2, wd_cons, show j + 1 + 1 = j + 2 from rfl] at hmid
        simp only at hmid
        have hnx := hstep _ _ hmid
        simp only [hlt] at hnx
        have b5 := hP.bb
        have hbx1 := hP.box [cv, kv, .int .i64 am, .str []]
        have b6 := hbx1.bb
        have hbx2 := hbx1.box [cv, kv, .int .i64 am, .str ba]
        have b7 := hbx2.bb
        have ok1 := hbx2.cl.cellOk
        have ok2 := hbx2.kl.cellOk
        simp (disch := first | omega | (simp only [lenT]; omega)) only [dF hgi, wrap_i64, hj1, hc2, b5, b6, b7, ok1, ok2, txR, evSt, ↓evPre, ↓evPreW, evPost, evPostW, evR, evU, seval]
        have hbx3 := hbx2.add [⟨0, some (.arr 75 4 [[cv, kv, .int .i64 am, .str ba]])⟩]
        refine hbx3.o.app (a := (⟨last :: pl.map (·.2), pl.map (·.1), am, ba⟩, cv, kv)) (by omega) hbx3.cl hbx3.kl (fun i hi hv => ?_) fun v' S5 hI5 => ?_
        · rcases hi with hi | hi
          · exact (hbx3.d1 i hv).2.1 hi
          · exact (hbx3.d1 i hv).2.2 hi
        simp (disch := first | omega | (simp only [lenT]; omega)) only [wrap_i64, hj2, evSt, ↓evPre, ↓evPreW, evPost, evPostW, evR, evU, seval]
        refine ⟨(acc ++ [(⟨last :: pl.map (·.2), pl.map (·.1), am, ba⟩, cv, kv)], m, j + 2, lt, v', S5), ⟨hI5, by simp only; omega, by simp only; omega, by simp only [List.length_append, List.length_singleton]; omega, fun a ha => ?_, ?_⟩, by simp only; omega, .inl ⟨by simp only [↓evPre, ↓evPreW, evPost, evPostW, evR, evU, seval]; try rfl, rfl⟩⟩
        · rcases List.mem_append.1 ha with ha | ha
          · exact hax a ha
          · rw [List.mem_singleton] at ha
            rw [ha]
            simp only [List.length_cons, List.length_map]
            omega
        · simp only [List.map_append, List.map_cons, List.map_nil, List.append_assoc, List.singleton_append]
          exact hnx
end Go.Proofs.YtkdbghhdklfoiaaDoor
