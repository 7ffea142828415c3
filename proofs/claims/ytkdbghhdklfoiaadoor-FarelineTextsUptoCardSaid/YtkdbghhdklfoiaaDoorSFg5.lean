/- Plain: what was read is printed as it was. -/
import Derived.Test.YtkdbghhdklfoiaaDoorSFg4
namespace Go.Proofs.YtkdbghhdklfoiaaDoor
open Go Go.AL Go.RowKit
set_option linter.unusedSectionVars false
variable [Go.AL.Mode] [Go.AL.LooseM]
set_option linter.unusedSimpArgs false
set_option linter.unusedVariables false
theorem dval_pos {d : Txt} {c : UInt8} (h : d[0]? = some c) (h0 : dig c = true) (h1 : c ≠ 48) : 1 ≤ dval d := by
  have h2 := dval_take d 1
  have h3 : dval (d.take 1) = 10 * dval (d.take 0) + (c.toNat - 48) := dval_step h
  have h4 := dig_iff.1 h0
  have h5 : c.toNat ≠ 48 := fun e => h1 (UInt8.toNat_inj.1 e)
  omega
theorem dig_chr {c : UInt8} (h : dig c = true) : UInt8.ofNat (48 + (c.toNat - 48)) = c := by
  have := dig_iff.1 h
  rw [show 48 + (c.toNat - 48) = c.toNat by omega, UInt8.ofNat_toNat]
theorem dec_canon : ∀ (n : Nat) (d : Txt), d.length = n → 1 ≤ n → d.all dig = true → (1 < n → d[0]? ≠ some 48) → Lib.decDigits (dval d) = d
  | 0, _, _, h, _, _ => by omega
  | n + 1, d, hl, _, ha, hz => by
    rcases List.eq_nil_or_concat d with rfl | ⟨d', c, rfl⟩
    · simp at hl
    rw [List.concat_eq_append] at *
    rw [List.all_append, Bool.and_eq_true] at ha
    have hc : dig c = true := by simpa using ha.2
    have hc2 := dig_iff.1 hc
    have hl' : d'.length = n := by simpa using hl
    rw [dval_snoc]
    by_cases hn : n = 0
    · have : d' = [] := List.length_eq_zero_iff.1 (by omega)
      subst this
      rw [show 10 * dval [] + (c.toNat - 48) = c.toNat - 48 by show 10 * 0 + _ = _; omega, Lib.decDigits, dif_pos (by omega), dig_chr hc]
      rfl
    · obtain ⟨a, hA⟩ : ∃ a, d'[0]? = some a := ⟨_, List.getElem?_eq_getElem (by omega)⟩
      have ha0 : (d' ++ [c])[0]? = some a := by rw [List.getElem?_append_left (by omega)]; exact hA
      have hne : a ≠ 48 := fun e => hz (by omega) (by rw [ha0, e])
      have hp := dval_pos hA (List.all_eq_true.1 ha.1 a (List.mem_of_getElem? hA)) hne
      have ih := dec_canon n d' hl' (by omega) ha.1 (fun _ => by rw [hA]; intro e; exact hne (Option.some.inj e))
      rw [Lib.decDigits, dif_neg (by omega), show (10 * dval d' + (c.toNat - 48)) / 10 = dval d' by omega, show (10 * dval d' + (c.toNat - 48)) % 10 = c.toNat - 48 by omega, ih, dig_chr hc]
theorem mpar_inv {a : Txt} {n : Int} (h : mparF a = (n, 0)) (h0 : 0 ≤ n) : amW n = a := by
  unfold mparF at h
  by_cases hp : pOk a = true
  case neg => rw [if_neg hp] at h; cases h
  rw [if_pos hp] at h
  by_cases hM : dval (dsF a) ≤ 1099511627776
  case neg => rw [if_neg hM] at h; cases h
  rw [if_pos hM] at h
  have hn : n = sgF a * ((dval (dsF a) : Nat) : Int) := (congrArg Prod.fst h).symm
  have hp2 := hp
  unfold pOk at hp2
  simp only [Bool.and_eq_true, decide_eq_true_eq, Bool.not_eq_true', Bool.and_eq_false_iff, decide_eq_false_iff_not, digsF] at hp2
  obtain ⟨h4, hdot, ⟨hne1, hd1⟩, ⟨hne2, hd2⟩, hz, hneg⟩ := hp2
  have hk : kF a = (tlF a).length - 3 := rfl
  have hds : dsF a = (tlF a).take (kF a) ++ (tlF a).drop (kF a + 1) := rfl
  have hz' : ¬ (1 < kF a ∧ (tlF a)[0]? = some 48) := fun q => hz.elim (fun q1 => q1 q.1) (fun q1 => q1 q.2)
  by_cases hs : a.head? = some 45
  · have hsg : sgF a = -1 := if_pos hs
    have htl : a = 45 :: tlF a := by
      unfold tlF
      rw [if_pos hs]
      cases a with
      | nil => cases hs
      | cons c a => cases hs; rfl
    rw [hsg] at hn
    have hD : dval (dsF a) = 0 := by omega
    exfalso
    refine hneg ?_
    have hall : (dsF a).all dig = true := by rw [hds, List.all_append, hd1, hd2]; rfl
    have h48 := dval_zero hD hall
    rw [hds] at h48
    generalize tlF a = t at *
    generalize kF a = k at *
    have ht0 : t[0]? = some 48 := by
      obtain ⟨x, hx⟩ : ∃ x, t[0]? = some x := ⟨_, List.getElem?_eq_getElem (by omega)⟩
      have h1 : (t.take k)[0]? = some x := by rw [List.getElem?_take_of_lt (by omega)]; exact hx
      rw [hx, h48 x (List.mem_append_left _ (List.mem_of_getElem? h1))]
    have hk' : k = 1 := by
      by_cases q : 1 < k
      · exact absurd ⟨q, ht0⟩ hz'
      · omega
    have hlen : t.length = 4 := by omega
    rw [hk'] at h48 hdot
    rw [htl]
    match t, hlen with
    | [p, b, c, d], _ =>
      have hb : b = 46 := by simpa using hdot
      rw [hb, h48 p (by simp), h48 c (by simp), h48 d (by simp)]
  · have hsg : sgF a = 1 := if_neg hs
    have htl : tlF a = a := if_neg hs
    rw [hsg] at hn
    rw [htl] at h4 hdot hd1 hd2 hz' hk hds
    generalize kF a = k at *
    obtain ⟨x, hx⟩ : ∃ x, a[k + 1]? = some x := ⟨_, List.getElem?_eq_getElem (by omega)⟩
    obtain ⟨y, hy⟩ : ∃ y, a[k + 2]? = some y := ⟨_, List.getElem?_eq_getElem (by omega)⟩
    have hdr : a.drop (k + 1) = [x, y] := by
      rw [drop_at hx, show k + 1 + 1 = k + 2 from rfl, drop_at hy, List.drop_of_length_le (by omega)]
    have hxd := List.all_eq_true.1 hd2 x (by rw [hdr]; simp)
    have hyd := List.all_eq_true.1 hd2 y (by rw [hdr]; simp)
    have hx2 := dig_iff.1 hxd
    have hy2 := dig_iff.1 hyd
    have hD : dval (dsF a) = 10 * (10 * dval (a.take k) + (x.toNat - 48)) + (y.toNat - 48) := by
      rw [hds, hdr, show a.take k ++ [x, y] = (a.take k ++ [x]) ++ [y] by simp, dval_snoc, dval_snoc]
    have hcan := dec_canon k (a.take k) (by rw [List.length_take]; omega) (by omega) hd1 (fun q e => hz' ⟨q, by rw [List.getElem?_take_of_lt (by omega)] at e; exact e⟩)
    have ha : a = a.take k ++ 46 :: [x, y] := by
      have := List.take_append_drop k a
      rw [drop_at hdot, hdr] at this
      exact this.symm
    unfold amW
    rw [hn, show (1 * ((dval (dsF a) : Nat) : Int)).toNat = dval (dsF a) by omega, hD, amt_eq]
    rw [show (10 * (10 * dval (a.take k) + (x.toNat - 48)) + (y.toNat - 48)) / 100 = dval (a.take k) by omega, show (10 * (10 * dval (a.take k) + (x.toNat - 48)) + (y.toNat - 48)) % 100 = 10 * (x.toNat - 48) + (y.toNat - 48) by omega, hcan]
    unfold twoF
    rw [show (10 * (x.toNat - 48) + (y.toNat - 48)) / 10 = x.toNat - 48 by omega, show (10 * (x.toNat - 48) + (y.toNat - 48)) % 10 = y.toNat - 48 by omega, dig_chr hxd, dig_chr hyd]
    exact ha.symm
theorem wd_inv {s : Rs} (h : (wdF s).2.e = 0) : s.e = 0 ∧ s.ws = (wdF s).1 :: (wdF s).2.ws := by
  by_cases he : s.e = 0
  · refine ⟨he, ?_⟩
    unfold wdF at *
    rw [if_pos he] at *
    cases hw : s.ws with
    | nil => rw [hw] at h; cases h
    | cons w l => rfl
  · rw [wd_bad he] at h
    exact absurd h he
theorem am_inv {s : Rs} (h : (amF s).2.e = 0) : s.e = 0 ∧ ∃ w, s.ws = w :: (amF s).2.ws ∧ mparF w = ((amF s).1, 0) := by
  unfold amF at *
  by_cases he : (wdF s).2.e = 0
  · rw [if_pos he] at *
    obtain ⟨h1, h2⟩ := wd_inv he
    exact ⟨h1, _, h2, by simp only at h ⊢; rw [← h]⟩
  · rw [if_neg he] at h
    exact absurd h he
theorem mu_inv {c : Txt} {s : Rs} (h : (muF c s).e = 0) : s.e = 0 ∧ s.ws = c :: (muF c s).ws := by
  unfold muF at *
  by_cases hc : (wdF s).1 ≠ c ∧ (wdF s).2.e = 0
  · rw [if_pos hc] at h; cases h
  · rw [if_neg hc] at *
    obtain ⟨h1, h2⟩ := wd_inv h
    refine ⟨h1, ?_⟩
    have : (wdF s).1 = c := Classical.byContradiction fun q => hc ⟨q, h⟩
    rw [h2, this]
theorem itL_inv : ∀ (n : Nat) (s : Rs), (itL n s).2.e = 0 → s.e = 0 ∧ s.ws = legsW ((itL n s).1.map (·.1)) ((itL n s).1.map (·.2)) ++ (itL n s).2.ws
  | 0, s, h => ⟨h, rfl⟩
  | n + 1, s, h => by
    rw [itL] at *
    by_cases h2 : (nxF (wdF (wdF s).2).2.ws (wdF (wdF s).2).2.e).length = 2
    · rw [if_pos h2] at *
      obtain ⟨i1, i2⟩ := itL_inv n _ h
      obtain ⟨a1, a2⟩ := wd_inv i1
      obtain ⟨b1, b2⟩ := wd_inv a1
      refine ⟨b1, ?_⟩
      simp only at i2 ⊢
      rw [b2, a2, i2]
      rfl
    · rw [if_neg h2] at *
      obtain ⟨a1, a2⟩ := wd_inv h
      obtain ⟨b1, b2⟩ := wd_inv a1
      refine ⟨b1, ?_⟩
      simp only
      rw [b2, a2]
      rfl
theorem itF_inv {c : Txt} {s : Rs} (h : (itF c s).2.e = 0) (ho : okB (itF c s).1.am = true) : s.e = 0 ∧ s.ws = itmW (itF c s).1 ++ (itF c s).2.ws := by
  unfold itF at *
  simp only at *
  obtain ⟨b1, b2⟩ := wd_inv h
  obtain ⟨a1, w, a2, a3⟩ := am_inv b1
  obtain ⟨i1, i2⟩ := itL_inv _ _ a1
  refine ⟨i1, ?_⟩
  unfold itmW
  simp only [List.tail_cons]
  rw [mpar_inv a3 (okB_iff.1 ho).1]
  rw [a2, b2] at i2
  rw [List.append_assoc]
  exact i2
theorem its_inv : ∀ (n : Nat) (c : Txt) (s : Rs), (itsL n c s).2.e = 0 → (∀ x ∈ (itsL n c s).1, okB x.am = true) → s.e = 0 ∧ s.ws = itsW (itsL n c s).1 ++ (itsL n c s).2.ws
  | 0, c, s, h, _ => ⟨h, rfl⟩
  | n + 1, c, s, h, ho => by
    rw [itsL] at *
    by_cases h2 : (nxF s.ws s.e).length = 2
    · rw [if_pos h2] at *
      simp only at h ho
      obtain ⟨i1, i2⟩ := its_inv n _ _ h fun x hx => ho x (List.mem_cons_of_mem _ hx)
      obtain ⟨j1, j2⟩ := itF_inv i1 (ho _ (List.mem_cons_self ..))
      refine ⟨j1, ?_⟩
      simp only
      rw [j2, i2]
      unfold itsW
      simp
    · rw [if_neg h2] at *
      exact ⟨h, rfl⟩
theorem its_head {n : Nat} {c : Txt} {s : Rs} {x : Itm} (h : (itsL n c s).1.head? = some x) : x.cs.head? = some c := by
  cases n with
  | zero => cases h
  | succ n =>
    rw [itsL] at h
    by_cases h2 : (nxF s.ws s.e).length = 2
    · rw [if_pos h2] at h
      cases h
      rfl
    · rw [if_neg h2] at h; cases h
theorem tx_inv : ∀ (n : Nat) (s : Rs), (txL n s).2.e = 0 → (∀ x ∈ (txL n s).1, okB x.am = true) → s.e = 0 ∧ s.ws = txsW (txL n s).1 ++ (txL n s).2.ws
  | 0, s, h, _ => ⟨h, rfl⟩
  | n + 1, s, h, ho => by
    rw [txL] at *
    by_cases h2 : nxF s.ws s.e = txW
    · rw [if_pos h2] at *
      simp only at h ho
      obtain ⟨i1, i2⟩ := tx_inv n _ h fun x hx => ho x (List.mem_cons_of_mem _ hx)
      unfold t2F t1F at *
      obtain ⟨a1, w, a2, a3⟩ := am_inv i1
      obtain ⟨b1, b2⟩ := wd_inv a1
      obtain ⟨c1, c2⟩ := wd_inv b1
      have hw : (wdF s).1 = txW := by
        have h3 := h2
        unfold nxF at h3
        rw [if_pos c1, c2] at h3
        exact h3
      have hm := mpar_inv a3 (okB_iff.1 (ho _ (List.mem_cons_self ..))).1
      refine ⟨c1, ?_⟩
      simp only
      rw [c2, b2, a2, i2, hw]
      unfold txsW
      rw [List.flatMap_cons]
      unfold chgW
      simp only
      rw [hm]
      rfl
    · rw [if_neg h2] at *
      exact ⟨h, rfl⟩
theorem pr_par {ws : List Txt} {c : Cal} (h : parW ws = (c, 0)) : prW c = ws ∧ chkF c = 0 := by
  unfold parW at h
  by_cases h2 : (nxF (wdF ⟨ws, 0⟩).2.ws (wdF ⟨ws, 0⟩).2.e).length = 2
  case neg => rw [if_neg h2] at h; cases h
  rw [if_pos h2] at h
  by_cases he : e2F (rdF ws) = 0
  case neg => rw [if_neg he] at h; exact absurd (congrArg Prod.snd h) he
  rw [if_pos he] at h
  have hc : (rdF ws).1 = c := congrArg Prod.fst h
  unfold e2F at he
  by_cases he1 : e1F (rdF ws).2 = 0
  case neg => rw [if_neg he1] at he; exact absurd he he1
  rw [if_pos he1, hc] at he
  have hok := chk_ok he
  have hi := its_ok hok.its
  have ht := txs_ok hok.txs
  unfold e1F at he1
  have hr : (rdF ws).2.e = 0 ∧ (rdF ws).2.ws = [] := by
    by_cases q : (rdF ws).2.e = 0 ∧ (rdF ws).2.ws ≠ []
    · rw [if_pos q] at he1; cases he1
    · rw [if_neg q] at he1
      exact ⟨he1, Classical.byContradiction fun k => q ⟨he1, k⟩⟩
  refine ⟨?_, he⟩
  subst hc
  have n1 := hok.n1
  have of := (okB_iff.1 hok.fare).1
  have ot := (okB_iff.1 hok.tot).1
  clear hok he he1 h
  unfold rdF at *
  simp only at *
  obtain ⟨hr1, hr2⟩ := hr
  obtain ⟨a1, wT, a2, a3⟩ := am_inv hr1
  rw [hr2] at a2
  obtain ⟨b1, b2⟩ := mu_inv a1
  obtain ⟨c1, c2⟩ := tx_inv _ _ b1 fun x hx => (ht x hx).2
  obtain ⟨d1, wF, d2, d3⟩ := am_inv c1
  obtain ⟨e1, e2⟩ := mu_inv d1
  obtain ⟨f1, f2⟩ := its_inv _ _ _ e1 fun x hx => (hi x hx).2.2
  obtain ⟨g1, g2⟩ := wd_inv f1
  simp only at g2
  unfold prW
  simp only
  rw [mpar_inv a3 ot, mpar_inv d3 of]
  obtain ⟨x, l, hxl⟩ : ∃ x l, (itsL (ws.length + 1) (wdF ⟨ws, 0⟩).1 (wdF ⟨ws, 0⟩).2).1 = x :: l := by
    cases hq : (itsL (ws.length + 1) (wdF ⟨ws, 0⟩).1 (wdF ⟨ws, 0⟩).2).1 with
    | nil => rw [hq] at n1; simp at n1
    | cons x l => exact ⟨x, l, rfl⟩
  have hh := its_head (n := ws.length + 1) (c := (wdF ⟨ws, 0⟩).1) (s := (wdF ⟨ws, 0⟩).2) (x := x) (by rw [hxl]; rfl)
  rw [hxl, List.head?_cons, Option.bind_some, hh, ← hxl]
  simp only [Option.getD_some]
  conv => rhs; rw [g2, f2, e2, d2, c2, b2, a2]
  simp
theorem print_back {s : Txt} {c : Cal} (h : parF unqF s = (c, 0)) : priF c = (s, 0) := by
  unfold parF at h
  cases hw : wordsF unqF s with
  | none => rw [hw] at h; cases h
  | some ws =>
    rw [hw] at h
    obtain ⟨h1, h2⟩ := pr_par h
    have hwd := prW_wd (chk_ok h2)
    rw [h1] at hwd
    have hm : ws.map wq = ws.map id := List.map_congr_left fun t ht => if_pos (hwd t ht).1
    have hj := words_sound hw
    unfold joinF at hj
    rw [hm, List.map_id] at hj
    unfold priF
    rw [if_pos h2, h1, hj]
theorem par_chk (u : Txt → Option Txt) (s : Txt) : chkF (parF u s).1 = 0 ∨ (parF u s).1 = zCal := by
  unfold parF
  cases wordsF u s with
  | none => exact .inr rfl
  | some ws =>
    simp only
    unfold parW
    by_cases h2 : (nxF (wdF ⟨ws, 0⟩).2.ws (wdF ⟨ws, 0⟩).2.e).length = 2
    case neg => rw [if_neg h2]; exact .inr rfl
    rw [if_pos h2]
    by_cases he : e2F (rdF ws) = 0
    case neg => rw [if_neg he]; exact .inr rfl
    rw [if_pos he]
    refine .inl ?_
    unfold e2F at he
    by_cases he1 : e1F (rdF ws).2 = 0
    case neg => rw [if_neg he1] at he; exact absurd he he1
    rw [if_pos he1] at he
    exact he
end Go.Proofs.YtkdbghhdklfoiaaDoor
