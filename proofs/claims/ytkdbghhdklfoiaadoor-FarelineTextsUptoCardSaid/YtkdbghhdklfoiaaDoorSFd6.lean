/- The reference's lines: Join, Words. -/
import Derived.Test.YtkdbghhdklfoiaaDoorSFd4
namespace Go.Proofs.YtkdbghhdklfoiaaDoor
open Go Go.AL Go.RowKit
set_option linter.unusedSectionVars false
variable [Go.AL.Mode] [Go.AL.LooseM]
set_option linter.unusedSimpArgs false
set_option linter.unusedVariables false
theorem lendS {P : Program} {f : FuncId} {args args1 : List V} {S : Store} {t : Txt} (h : CallA P f args1 (kill S) fun x S' => x = .str t ∧ S' = kill S) (ha : All2 (Frz S (kill S)) args args1) : CallA P f args S fun x S' => x = .str t ∧ S' = S := by
  have hne : Neat ([] : Store) := ⟨fun id ver e sz rows h => by simp at h, fun id ver m h => by simp at h⟩
  have hf : Fgt S (kill S) := by simpa using hne.killed S
  obtain ⟨h1, h2⟩ := ha.get
  refine ⟨h.1, fun ρ w us hi hv => ?_⟩
  refine (h.2 ρ w us (hi.forget hf) ⟨by rw [hv.1, h1], fun j v1 hj => ?_⟩).mono fun en w' ⟨ρ', S', r, u, e1, e2, e3, e4, e5⟩ => ?_
  · obtain ⟨x, hx, hk⟩ := h2 j v1 hj
    obtain ⟨u, hu, hr⟩ := hv.2 j x hx
    exact ⟨u, hu, hk.rel hf hi hr⟩
  · obtain ⟨rfl, rfl⟩ := e5
    cases e2 with
    | str s1 s2 =>
      have hb : Below w.heap.size w w' := ⟨e4.os, e4.tape.1, e4.output, e4.size, fun g hg => (e4.un g ⟨hg, fun id o c g' tot ho hc hr => by
        have := dead_all (S := S) id o ho
        rw [this] at hc
        cases hc⟩).2⟩
      exact ⟨ρ, S, _, _, e1, .str s1 s2, inv_below hi hb, ext_below hb, rfl, rfl⟩
theorem lgLent {S S1 : Store} {q : TypeId} {sz : Nat} {rows : List (List V)} {v : V} (h : LG S q sz rows v S1) (hr : ∀ r ∈ rows, r.length = sz ∧ V.allImm r = true) : Frz S1 (kill S1) v (.sl sz rows) := by
  rcases h.here with ⟨rfl, rfl⟩ | ⟨c, ver, h1, rfl, h3⟩
  · exact .nil
  · exact .dead (dead_all c) h3 rfl hr
theorem joinF_snoc {l : List Txt} {k : Nat} {t : Txt} (h : l[k]? = some t) : joinF (l.take (k + 1)) = if k = 0 then wq t else joinF (l.take k) ++ [32] ++ wq t := by
  by_cases h0 : k = 0
  · subst h0
    rw [if_pos rfl, take_at h, List.take_zero, List.nil_append, joinF_one]
  · rw [if_neg h0, take_at h]
    unfold joinF lineF
    have hlt := (List.getElem?_eq_some_iff.1 h).1
    rcases List.eq_nil_or_concat (l.take k) with e | ⟨m, y, e⟩
    · have := congrArg List.length e
      rw [List.length_take, List.length_nil] at this
      omega
    · rw [List.concat_eq_append] at e
      rw [e, List.map_append, List.map_append]
      exact join_snoc _ _ _ _
theorem joinF_len : ∀ (l : List Txt) (n : Nat), (∀ t ∈ l, t.length ≤ n) → (joinF l).length ≤ (4 * n + 3) * l.length
  | [], n, _ => Nat.zero_le _
  | [t], n, h => by
    have h1 := wq_len t
    have h2 := h t (List.mem_cons_self ..)
    rw [joinF_one, List.length_singleton]
    omega
  | t :: t2 :: l, n, h => by
    have h1 := wq_len t
    have h2 := h t (List.mem_cons_self ..)
    have ih := joinF_len (t2 :: l) n fun x hx => h x (List.mem_cons_of_mem _ hx)
    rw [joinF_cons, List.length_append, List.length_cons]
    rw [List.length_cons, Nat.mul_succ]
    omega
set_option maxHeartbeats 2000000 in
theorem rjoin_A (l : List Txt) (hl : l.length ≤ 100000) (hw : ∀ t ∈ l, t.length ≤ 1000) (S : Store) : CallA Tryd.prog 39 [txSl l] S fun r S' => r = .str (joinF l) ∧ S' = S := by
  refine CallA.withNeat Tryd.func39 c10039 fun hn => ?_
  refine CallA.fin Tryd.func39 c10039 (Nat.le_of_ble_eq_true rfl) fun σ hσ => ?_
  simp (disch := first | omega | (simp only [lenT]; omega)) only [a10039, txSl, evSt, ↓evPre, ↓evPreW, evPost, evPostW, evR, evU, seval]
  refine loopF (ι := Nat × V × Store) (fun i => [(0, .sl 1 (l.map txR)), (3, i.2.1), (4, .int .i64 i.1)]) (fun i => i.2.2)
    (fun i => i.1 ≤ l.length ∧ LG S 5 1 (byteRows (joinF (l.take i.1))) i.2.1 i.2.2) (fun i => l.length - i.1)
    (fun i hi => by rw [hσ]; obtain ⟨T, hT⟩ := hi.2.ext; rw [hT]; simp) (0, .nilSl, S) ⟨Nat.zero_le _, LG.nil0⟩ (.inl ⟨?_, rfl⟩) ?_
  · simp only [↓evPre, ↓evPreW, evPost, evPostW, evR, evU, seval]
    try rfl
  rintro ⟨k, v, S1⟩ ⟨hk, hg⟩
  simp only at hk hg ⊢
  have hjl := joinF_len (l.take k) 1000 fun t ht => hw t (List.mem_of_mem_take ht)
  rw [List.length_take] at hjl
  have hjl' : (joinF (l.take k)).length ≤ 4003 * 100000 := by
    refine Nat.le_trans hjl (Nat.mul_le_mul_left _ ?_)
    omega
  cases hc : l[k]? with
  | none =>
    have hge : l.length ≤ k := List.getElem?_eq_none_iff.1 hc
    have hlt : ¬ ((k : Int) < l.length) := by omega
    rw [List.take_of_length_le hge] at hg
    have hb := LG_b2s hg
    simp (disch := first | omega | (simp only [lenT]; omega)) only [dF hlt, hb, evSt, ↓evPre, ↓evPreW, evPost, evPostW, evR, evU, seval]
    exact ⟨_, S, hg.fgt hn, .imm rfl, Nat.le_refl _, rfl, rfl⟩
  | some t =>
    have hlt' := (List.getElem?_eq_some_iff.1 hc).1
    have hlt : ((k : Int) < l.length) := by omega
    have hk1 : (k : Int) + 1 = ((k + 1 : Nat) : Int) := by omega
    have htw := hw t (List.mem_of_getElem? hc)
    have hwl := wq_len t
    have hsn := joinF_snoc hc
    by_cases k0 : k = 0
    · have hz : ¬ (0 : Int) < ((k : Nat) : Int) := by omega
      rw [if_pos k0] at hsn
      have hg0 : LG S 5 1 [] v S1 := by
        rw [k0] at hg
        exact hg
      simp (disch := first | omega | (simp only [lenT]; omega)) only [dT hlt, dF hz, hc, txR, evSt, ↓evPre, ↓evPreW, evPost, evPostW, evR, evU, seval]
      refine (rplain_A t (by omega) _).then ?_
      cases hp : plainF t with
      | true =>
        have hwq : wq t = t := if_pos hp
        simp (disch := first | omega | (simp only [lenT]; omega)) only [evSt, ↓evPre, ↓evPreW, evPost, evPostW, evR, evU, seval]
        refine hg0.app (by simp only [strRows, List.length_map, List.length_append, List.length_singleton, List.length_nil]; omega) fun v2 S3 h4 => ?_
        have h5 : LG S 5 1 (byteRows (joinF (l.take (k + 1)))) v2 S3 := by
          rw [hsn, hwq]
          exact h4
        simp (disch := first | omega | (simp only [lenT]; omega)) only [wrap_i64, hk1, evSt, ↓evPre, ↓evPreW, evPost, evPostW, evR, evU, seval]
        exact ⟨(k + 1, v2, S3), ⟨by simp only; omega, h5⟩, by simp only; omega, .inl ⟨by simp only [↓evPre, ↓evPreW, evPost, evPostW, evR, evU, seval]; try rfl, rfl⟩⟩
      | false =>
        have hwq : wq t = quoF t := if_neg (by rw [hp]; simp)
        have hql := quoF_len t
        simp (disch := first | omega | (simp only [lenT]; omega)) only [evSt, ↓evPre, ↓evPreW, evPost, evPostW, evR, evU, seval]
        refine (quote_A t (by omega) _).then ?_
        simp (disch := first | omega | (simp only [lenT]; omega)) only [evSt, ↓evPre, ↓evPreW, evPost, evPostW, evR, evU, seval]
        refine hg0.app (by simp only [strRows, List.length_map, List.length_append, List.length_singleton, List.length_nil]; omega) fun v2 S3 h4 => ?_
        have h5 : LG S 5 1 (byteRows (joinF (l.take (k + 1)))) v2 S3 := by
          rw [hsn, hwq]
          exact h4
        simp (disch := first | omega | (simp only [lenT]; omega)) only [wrap_i64, hk1, evSt, ↓evPre, ↓evPreW, evPost, evPostW, evR, evU, seval]
        exact ⟨(k + 1, v2, S3), ⟨by simp only; omega, h5⟩, by simp only; omega, .inl ⟨by simp only [↓evPre, ↓evPreW, evPost, evPostW, evR, evU, seval]; try rfl, rfl⟩⟩
    · have hz : (0 : Int) < ((k : Nat) : Int) := by omega
      rw [if_neg k0] at hsn
      simp (disch := first | omega | (simp only [lenT]; omega)) only [dT hlt, dT hz, hc, txR, evSt, ↓evPre, ↓evPreW, evPost, evPostW, evR, evU, seval]
      refine hg.app (by rw [byteRows_len]; simp; omega) fun v1 S2 h2 => ?_
      rw [show byteRows (joinF (l.take k)) ++ [[V.int .u8 32]] = byteRows (joinF (l.take k) ++ [32]) by rw [byteRows_app]; rfl] at h2
      simp (disch := first | omega | (simp only [lenT]; omega)) only [hc, txR, evSt, ↓evPre, ↓evPreW, evPost, evPostW, evR, evU, seval]
      refine (rplain_A t (by omega) _).then ?_
      cases hp : plainF t with
      | true =>
        have hwq : wq t = t := if_pos hp
        simp (disch := first | omega | (simp only [lenT]; omega)) only [evSt, ↓evPre, ↓evPreW, evPost, evPostW, evR, evU, seval]
        refine h2.app (by rw [byteRows_len]; simp only [strRows, List.length_map, List.length_append, List.length_singleton, List.length_nil]; omega) fun v2 S3 h4 => ?_
        have h5 : LG S 5 1 (byteRows (joinF (l.take (k + 1)))) v2 S3 := by
          rw [hsn, hwq, byteRows_app]
          exact h4
        simp (disch := first | omega | (simp only [lenT]; omega)) only [wrap_i64, hk1, evSt, ↓evPre, ↓evPreW, evPost, evPostW, evR, evU, seval]
        exact ⟨(k + 1, v2, S3), ⟨by simp only; omega, h5⟩, by simp only; omega, .inl ⟨by simp only [↓evPre, ↓evPreW, evPost, evPostW, evR, evU, seval]; try rfl, rfl⟩⟩
      | false =>
        have hwq : wq t = quoF t := if_neg (by rw [hp]; simp)
        have hql := quoF_len t
        simp (disch := first | omega | (simp only [lenT]; omega)) only [evSt, ↓evPre, ↓evPreW, evPost, evPostW, evR, evU, seval]
        refine (quote_A t (by omega) _).then ?_
        simp (disch := first | omega | (simp only [lenT]; omega)) only [evSt, ↓evPre, ↓evPreW, evPost, evPostW, evR, evU, seval]
        refine h2.app (by rw [byteRows_len]; simp only [strRows, List.length_map, List.length_append, List.length_singleton, List.length_nil]; omega) fun v2 S3 h4 => ?_
        have h5 : LG S 5 1 (byteRows (joinF (l.take (k + 1)))) v2 S3 := by
          rw [hsn, hwq, byteRows_app]
          exact h4
        simp (disch := first | omega | (simp only [lenT]; omega)) only [wrap_i64, hk1, evSt, ↓evPre, ↓evPreW, evPost, evPostW, evR, evU, seval]
        exact ⟨(k + 1, v2, S3), ⟨by simp only; omega, h5⟩, by simp only; omega, .inl ⟨by simp only [↓evPre, ↓evPreW, evPost, evPostW, evR, evU, seval]; try rfl, rfl⟩⟩
theorem rL_grow : ∀ (n : Nat) (s : Txt) (l : List Txt), rL n s = some l → l.length ≤ s.length ∧ ∀ t ∈ l, t.length ≤ s.length
  | 0, s, l, h => by cases h; exact ⟨Nat.zero_le _, fun t ht => by cases ht⟩
  | n + 1, [], l, h => by rw [rL] at h; cases h; exact ⟨Nat.zero_le _, fun t ht => by cases ht⟩
  | n + 1, c :: r, l, h => by
    rw [rL] at h
    cases hw : rW1 ((c :: r).take (eN (c :: r))) with
    | none => rw [hw] at h; cases h
    | some t =>
      rw [hw] at h
      simp only [Option.map_eq_some_iff] at h
      obtain ⟨m, h1, rfl⟩ := h
      obtain ⟨a1, a2⟩ := rL_grow n _ m h1
      rw [List.length_drop] at a1 a2
      have ht : t.length ≤ (c :: r).length := by
        unfold rW1 at hw
        by_cases q : ((c :: r).take (eN (c :: r))).head? = some 34
        · rw [if_pos q] at hw
          have h2 := quoF_len t
          rw [rU_sound hw, List.length_take] at h2
          omega
        · rw [if_neg q] at hw
          cases hw
          rw [List.length_take]
          omega
      refine ⟨by simp only [List.length_cons] at *; omega, fun x hx => ?_⟩
      rcases List.mem_cons.1 hx with rfl | hx
      · exact ht
      · have := a2 x hx
        omega
def rwordsV (s : Txt) : V := match rWords s with
  | some l => .tup [txSl l, .int .i64 0]
  | none => .tup [.sl 1 [], .int .i64 3]
set_option maxHeartbeats 2000000 in
theorem rwords_A (s : Txt) (hs : s.length ≤ 1000) (S : Store) : CallA Tryd.prog 40 [.str s] S fun r S' => r = rwordsV s ∧ S' = S := by
  refine CallA.withNeat Tryd.func40 c10040 fun hn => ?_
  refine CallA.fin Tryd.func40 c10040 (Nat.le_of_ble_eq_true rfl) fun σ hσ => ?_
  simp (disch := first | omega | (simp only [lenT]; omega)) only [a10040, evSt, ↓evPre, ↓evPreW, evPost, evPostW, evR, evU, seval]
  refine loopF (ι := Nat × Nat × List Txt × V × Store) (fun i => [(0, .str s), (4, i.2.2.2.1), (5, .int .i64 i.1)]) (fun i => i.2.2.2.2)
    (fun i => i.1 ≤ s.length + 1 ∧ s.length < i.1 + i.2.1 ∧ i.2.2.1.length ≤ i.1 ∧ (∀ t ∈ i.2.2.1, t.length ≤ s.length) ∧ rL (s.length + 1) s = (rL i.2.1 (s.drop i.1)).map (fun x => i.2.2.1 ++ x) ∧ LG S 9 1 (i.2.2.1.map txR) i.2.2.2.1 i.2.2.2.2) (fun i => s.length + 1 - i.1)
    (fun i hi => by rw [hσ]; obtain ⟨T, hT⟩ := hi.2.2.2.2.2.ext; rw [hT]; simp) (0, s.length + 1, [], .nilSl, S) ⟨Nat.zero_le _, by simp only; omega, Nat.zero_le _, fun t ht => (by cases ht), by simp, LG.nil0⟩ (.inl ⟨?_, rfl⟩) ?_
  · simp only [↓evPre, ↓evPreW, evPost, evPostW, evR, evU, seval]
    try rfl
  rintro ⟨i, n, m, v, S1⟩ ⟨hi, hf, hml, hmt, hu, hg⟩
  simp only at hi hf hml hmt hu hg ⊢
  have hms := hg.fgt hn
  cases hc : s[i]? with
  | none =>
    have hge : s.length ≤ i := List.getElem?_eq_none_iff.1 hc
    have hlt : ¬ ((i : Int) < s.length) := by omega
    have hr : rL n (s.drop i) = some [] := by
      rw [List.drop_of_length_le hge]
      cases n <;> rfl
    rw [hr] at hu
    simp only [Option.map_some, List.append_nil] at hu
    have hgl := rL_grow _ _ _ hu
    simp (disch := first | omega | (simp only [lenT]; omega)) only [dF hlt, evSt, ↓evPre, ↓evPreW, evPost, evPostW, evR, evU, seval]
    refine (lendS (args := [v]) (rjoin_A m (by omega) (fun t ht => by have := hgl.2 t ht; omega) (kill S1)) ⟨lgLent hg (tx_imm m), trivial⟩).then ?_
    by_cases he : joinF m = s
    · have hw : rWords s = some m := by
        unfold rWords
        rw [hu]
        exact if_pos he
      simp (disch := first | omega | (simp only [lenT]; omega)) only [dT he, evSt, ↓evPre, ↓evPreW, evPost, evPostW, evR, evU, seval]
      have hfin := hg.fin hn (tx_imm m)
      exact ⟨_, S, hfin.1, .tup2 hfin.2 (.imm rfl), Nat.le_refl _, by unfold rwordsV; rw [hw]; rfl, rfl⟩
    · have hw : rWords s = none := by
        unfold rWords
        rw [hu]
        exact if_neg he
      simp (disch := first | omega | (simp only [lenT]; omega)) only [dF he, evSt, ↓evPre, ↓evPreW, evPost, evPostW, evR, evU, seval]
      exact ⟨_, S, hms, .tup2 .nil (.imm rfl), Nat.le_refl _, by unfold rwordsV; rw [hw], rfl⟩
  | some c =>
    have hlt' := (List.getElem?_eq_some_iff.1 hc).1
    have hlt : ((i : Int) < s.length) := by omega
    obtain ⟨p, rfl⟩ : ∃ p, n = p + 1 := ⟨n - 1, by omega⟩
    have hel := eN_le (s.drop i)
    rw [List.length_drop] at hel
    obtain ⟨w, hw⟩ : ∃ w, w = (s.drop i).take (eN (s.drop i)) := ⟨_, rfl⟩
    have hwl : w.length = eN (s.drop i) := by rw [hw, List.length_take, List.length_drop]; omega
    rw [drop_at hc, rL, ← drop_at hc, ← hw] at hu
    obtain ⟨k, hk⟩ : ∃ k, k = i + eN (s.drop i) := ⟨_, rfl⟩
    have hki : k - i = eN (s.drop i) := by omega
    have hk1 : (k : Int) + 1 = ((k + 1 : Nat) : Int) := by omega
    have hsl : (s.drop i).take (k - i) = w := by rw [hki, hw]
    have hcut : (0 : Int) ≤ (i : Int) ∧ (i : Int) ≤ (k : Int) ∧ (k : Int) ≤ s.length := by omega
    have ea := end_A s i (by omega) (by omega)
    rw [← hk] at ea
    have hdd : (s.drop i).drop (eN (s.drop i) + 1) = s.drop (k + 1) := by rw [List.drop_drop, hk]; rfl
    have step : ∀ (t : Txt), rW1 w = some t → t.length ≤ s.length → ∀ v' S2, LG S 9 1 (m.map txR ++ [[.str t]]) v' S2 →
        (k + 1 ≤ s.length + 1 ∧ s.length < k + 1 + p ∧ (m ++ [t]).length ≤ k + 1 ∧ (∀ x ∈ m ++ [t], x.length ≤ s.length) ∧ rL (s.length + 1) s = (rL p (s.drop (k + 1))).map (fun x => (m ++ [t]) ++ x) ∧ LG S 9 1 ((m ++ [t]).map txR) v' S2) := fun t h1 h2 v' S2 h3 => by
      refine ⟨by omega, by omega, by simp; omega, fun x hx => ?_, ?_, ?_⟩
      · rcases List.mem_append.1 hx with hx | hx
        · exact hmt x hx
        · rw [List.mem_singleton] at hx
          rw [hx]
          exact h2
      · rw [hu, h1, hdd]
        simp only
        rw [Option.map_map]
        congr 1
        funext x
        simp
      · rw [List.map_append]
        exact h3
    simp (disch := first | omega | (simp only [lenT]; omega)) only [dT hlt, evSt, ↓evPre, ↓evPreW, evPost, evPostW, evR, evU, seval]
    refine (ea _).then ?_
    simp (disch := first | omega | (simp only [lenT]; omega)) only [evSt, ↓evPre, ↓evPreW, evPost, evPostW, evR, evU, seval]
    rw [if_pos (by omega), hsl]
    by_cases q : w.head? = some 34
    case neg =>
      have hr1 : rW1 w = some w := if_neg q
      cases w with
      | nil =>
        simp (disch := first | omega | (simp only [lenT]; omega)) only [evSt, ↓evPre, ↓evPreW, evPost, evPostW, evR, evU, seval]
        refine hg.app (by simp; omega) fun v' S2 h2 => ?_
        simp (disch := first | omega | (simp only [lenT]; omega)) only [wrap_i64, hk1, evSt, ↓evPre, ↓evPreW, evPost, evPostW, evR, evU, seval]
        exact ⟨(k + 1, p, m ++ [[]], v', S2), step [] hr1 (Nat.zero_le _) v' S2 h2, by simp only; omega, .inl ⟨by simp only [↓evPre, ↓evPreW, evPost, evPostW, evR, evU, seval]; try rfl, rfl⟩⟩
      | cons a w =>
        have qa : ¬ (a.toNat : Int) = 34 := fun h => q (by rw [List.head?_cons, UInt8.toNat_inj.1 (show a.toNat = (34 : UInt8).toNat by show a.toNat = 34; omega)])
        have hz : (0 : Int) < ((w.length + 1 : Nat) : Int) := by omega
        simp (disch := first | omega | (simp only [lenT]; omega)) only [dT hz, dF qa, List.length_cons, evSt, ↓evPre, ↓evPreW, evPost, evPostW, evR, evU, seval]
        refine hg.app (by simp; omega) fun v' S2 h2 => ?_
        simp (disch := first | omega | (simp only [lenT]; omega)) only [wrap_i64, hk1, evSt, ↓evPre, ↓evPreW, evPost, evPostW, evR, evU, seval]
        exact ⟨(k + 1, p, m ++ [a :: w], v', S2), step (a :: w) hr1 (by omega) v' S2 h2, by simp only; omega, .inl ⟨by simp only [↓evPre, ↓evPreW, evPost, evPostW, evR, evU, seval]; try rfl, rfl⟩⟩
    · have hr1 : rW1 w = rU w := if_pos q
      cases w with
      | nil => cases q
      | cons a w =>
        have qa : (a.toNat : Int) = 34 := by rw [List.head?_cons] at q; cases q; rfl
        have hz : (0 : Int) < ((w.length + 1 : Nat) : Int) := by omega
        have uq := runq_A (a :: w) (by omega) (by simp)
        simp (disch := first | omega | (simp only [lenT]; omega)) only [dT hz, qa, List.length_cons, evSt, ↓evPre, ↓evPreW, evPost, evPostW, evR, evU, seval]
        refine (uq _).then ?_
        cases hru : rU (a :: w) with
        | none =>
          have hw : rWords s = none := by
            unfold rWords
            rw [hu, hr1, hru]
            rfl
          simp (disch := first | omega | (simp only [lenT]; omega)) only [unqV, evSt, ↓evPre, ↓evPreW, evPost, evPostW, evR, evU, seval]
          exact ⟨_, S, hms, .tup2 .nil (.imm rfl), Nat.le_refl _, by unfold rwordsV; rw [hw], rfl⟩
        | some t =>
          have htl : t.length ≤ s.length := by
            have h2 := quoF_len t
            rw [rU_sound hru] at h2
            omega
          simp (disch := first | omega | (simp only [lenT]; omega)) only [unqV, evSt, ↓evPre, ↓evPreW, evPost, evPostW, evR, evU, seval]
          refine hg.app (by simp; omega) fun v' S2 h2 => ?_
          simp (disch := first | omega | (simp only [lenT]; omega)) only [wrap_i64, hk1, evSt, ↓evPre, ↓evPreW, evPost, evPostW, evR, evU, seval]
          exact ⟨(k + 1, p, m ++ [t], v', S2), step t (hr1.trans hru) htl v' S2 h2, by simp only; omega, .inl ⟨by simp only [↓evPre, ↓evPreW, evPost, evPostW, evR, evU, seval]; try rfl, rfl⟩⟩
end Go.Proofs.YtkdbghhdklfoiaaDoor
