/- Departure: seats.Check, as far as the statement needs it. -/
import Derived.Test.YtjjdfkkfhbndiaaDoorQStSeat7
import Derived.Test.YtjjdfkkfhbndiaaDoorQAlM
namespace Go.Proofs.YtjjdfkkfhbndiaaDoor.St
open Go Go.AL
set_option linter.unusedSectionVars false
variable [Go.AL.Mode] [Go.AL.LooseM]
set_option linter.unusedSimpArgs false
set_option linter.unusedVariables false
theorem dT {p : Prop} [Decidable p] (h : p) : decide p = true := decide_eq_true h
theorem dF {p : Prop} [Decidable p] (h : ¬ p) : decide p = false := decide_eq_false h
def FR (r : List V) : Prop := r.length = 2 ∧ V.allImm r = true
structure LP (S : Store) (p : Nat) (cells : List V) (rows : List (List V)) (v : V) (S' : Store) : Prop where
  lg : LG S 58 2 rows v S'
  lp : S.length ≤ p
  obj : S'.obj? p 0 = some (39, 3, [cells])
  ne : ∀ id ver off len, v = .msl id ver off len → id ≠ p
  fr : ∀ r ∈ rows, FR r
theorem LP.app {S : Store} {p : Nat} {cells : List V} {rows : List (List V)} {v : V} {S' : Store} (h : LP S p cells rows v S') {r : List V} (hr : FR r) {K : V → Store → Prop} (hl : rows.length + 1 ≤ 1000000000)
    (k : ∀ v' S'', LP S p cells (rows ++ [r]) v' S'' → K v' S'') : appK 58 2 v (some (2, [r])) S' K := by
  have hfr : ∀ x ∈ rows ++ [r], FR x := fun x hx => by
    rcases List.mem_append.1 hx with hx | hx
    · exact h.fr x hx
    · rw [List.mem_singleton.1 hx]; exact hr
  have hplt := obj_lt h.obj
  have hob := h.obj
  have hne := h.ne
  obtain ⟨⟨T, rfl⟩, h2⟩ := h.lg
  rcases h2 with ⟨rfl, rfl⟩ | ⟨id, ver, h3, rfl, h5⟩
  · rw [app_nil]
    refine ⟨by unfold roomA; simp, k _ _ ⟨⟨⟨T ++ [⟨0, some (.arr 58 2 [r])⟩], by simp⟩, .inr ⟨(S ++ T).length, 0, by simp, by simp, ?_⟩⟩, h.lp, obj_add hob, fun id ver off len e => ?_, hfr⟩⟩
    · rw [List.nil_append]
      exact (ob_app0 (S := S ++ T)).trans ob_head
    · cases e
      omega
  · have hn := hne _ _ _ _ rfl
    rw [app_msl, h5, appO_some]
    refine ⟨rfl, by unfold roomA; simp; omega, k _ _ ⟨⟨⟨T.set (id - S.length) ⟨ver + 1, some (.arr 58 2 (rows ++ [r]))⟩, ?_⟩, .inr ⟨id, ver + 1, h3, by simp, obj_set h5⟩⟩, h.lp, ?_, fun id' ver' off len e => ?_, hfr⟩⟩
    · rw [List.set_append_right _ _ h3]
    · unfold Store.obj?
      rw [List.getElem?_set_ne hn]
      exact hob
    · cases e
      exact hn
theorem blkA {P : Program} {N : Nat} {σ : Base} {id : Nat} {c : ACode} {Q : Exit → Env → Store → Prop} {E : Env} {S : Store} (h : wpA P N σ c (blockA id Q) E S) : wpA P N σ (.block id c) Q E S := h
theorem LP.start {S : Store} {cells : List V} {rows : List (List V)} {v : V} {S1 : Store} (h : LG S 58 2 rows v S1) (hf : ∀ r ∈ rows, FR r) : LP S S1.length cells rows v (S1 ++ [⟨0, some (.arr 39 3 [cells])⟩]) := by
  refine ⟨h.add _, ?_, (ob_app0 (S := S1)).trans ob_head, fun id ver off len e => ?_, hf⟩
  · obtain ⟨T, rfl⟩ := h.ext
    simp
  · rcases h.here with ⟨e2, _⟩ | ⟨id', ver', _, e2, h5⟩
    · rw [e2] at e; cases e
    · rw [e2] at e
      cases e
      exact Nat.ne_of_lt (obj_lt h5)
def GS (S : Store) (l : List Sea) (k m p : Nat) (cells : List V) (a6 : V) (E : Env) (S' : Store) : Prop :=
  ∃ rows, LP S p cells rows (E.get 3) S' ∧ E.get 0 = seSl l ∧ E.get 4 = .int .i64 k ∧ E.get 5 = .ptr p 0 0 0 ∧ E.get 6 = a6 ∧ E.get 12 = seSl l ∧ E.get 13 = .int .i64 l.length ∧ E.get 14 = .int .i64 k ∧ rows.length ≤ m
set_option maxHeartbeats 4000000 in
set_option maxRecDepth 10000 in
theorem check_A (l : List Sea) (S : Store) (hl : l.length ≤ 99) : CallA Tryd.prog 4 [seSl l] S fun r S' => ∃ rows : List (List V), r = .sl 2 rows ∧ rows.length ≤ 3 * l.length ∧ S' = S := by
  refine CallA.withNeat Tryd.func4 c3014 fun hn => ?_
  refine (CallA.fin Tryd.func4 c3014 (R := fun v S' => (∃ rows : List (List V), v = .sl 2 rows ∧ rows.length ≤ 3 * l.length) ∧ S' = S) (Nat.le_of_ble_eq_true rfl) fun σ hσ => ?_).mono fun r S' ⟨⟨L, h1, h2⟩, h3⟩ => ⟨L, h1, h2, h3⟩
  have n99 : ¬ (999 : Int) < l.length := by omega
  simp (disch := first | omega | (simp only [lenT]; omega)) only [a3014, seSl, n99, decide_false, evSt, ↓evPre, ↓evPreW, evPost, evPostW, evR, evU, seval]
  refine loopA (ι := Nat × List (List V) × V × Store) (fun i => [(0, seSl l), (3, i.2.2.1), (12, seSl l), (13, .int .i64 l.length), (14, .int .i64 i.1)]) (fun i => i.2.2.2)
    (fun i => i.1 ≤ l.length ∧ LG S 58 2 i.2.1 i.2.2.1 i.2.2.2 ∧ i.2.1.length ≤ 3 * i.1 ∧ ∀ r ∈ i.2.1, FR r) (fun i => l.length - i.1) (0, [], .nilSl, S) ⟨Nat.zero_le _, LG.nil0, Nat.zero_le _, (fun _ h => by cases h)⟩ ?_ rfl ?_
  · simp only [seSl, ↓evPre, ↓evPreW, evPost, evPostW, evR, evU, seval]
    try rfl
  rintro ⟨k, rows, v, S1⟩ ⟨hk, hg, hrl, hf⟩
  simp only at hk hg hrl hf ⊢
  cases hc : l[k]? with
  | none =>
    have hge : l.length ≤ k := List.getElem?_eq_none_iff.1 hc
    have hlt : ¬ ((k : Int) < l.length) := by omega
    simp (disch := first | omega | (simp only [lenT]; omega)) only [dF hlt, evSt, ↓evPre, ↓evPreW, evPost, evPostW, evR, evU, seval]
    have hfin := hg.fin hn hf
    exact ⟨_, S, hfin.1, hfin.2, Nat.le_refl _, ⟨_, rfl, by omega⟩, rfl⟩
  | some s =>
    have hlt' := (List.getElem?_eq_some_iff.1 hc).1
    have hlt : (k : Int) < l.length := by omega
    have hk1 : (k : Int) + 1 = ((k + 1 : Nat) : Int) := by omega
    have et : (l.map seaR).take k = (l.take k).map seaR := (List.map_take ..).symm
    have htl : (l.take k).length ≤ 1099511627776 := by rw [List.length_take]; omega
    have hadd : binV .add (.str [115, 101, 97, 116, 32]) (.str (decB k)) = some (.str ([115, 101, 97, 116, 32] ++ decB k)) := bs_add (by unfold decB maxLen; split <;> simp)
    generalize hat : ([115, 101, 97, 116, 32] : Txt) ++ decB k = at_ at hadd
    refine stageA (fun E' S' => E'.get 15 = .bool true ∧ E'.get 0 = seSl l ∧ E'.get 3 = v ∧ E'.get 12 = seSl l ∧ E'.get 13 = .int .i64 l.length ∧ E'.get 14 = .int .i64 k ∧ S' = S1) ?_ ?_
    · intro K hK
      simp (disch := first | omega | (simp only [lenT]; omega)) only [dT hlt, evSt, ↓evPre, ↓evPreW, evPost, evPostW, evR, evU, seval]
      exact hK _ _ ⟨rfl, rfl, rfl, rfl, rfl, rfl, rfl⟩
    rintro E S2 ⟨e15, e0, e3, e12, e13, e14, hS2⟩
    rw [hS2]
    clear hS2 S2
    refine stageA (fun E' S' => E'.get 0 = seSl l ∧ E'.get 3 = v ∧ E'.get 12 = seSl l ∧ E'.get 13 = .int .i64 l.length ∧ E'.get 14 = .int .i64 k ∧ S' = S1) ?_ ?_
    · intro K hK
      simp (disch := first | omega | (simp only [lenT]; omega)) only [e15, evSt, ↓evPre, ↓evPreW, evPost, evPostW, evR, evU, seval]
      exact hK _ _ ⟨e0, e3, e12, e13, e14, rfl⟩
    clear e15 e0 e3 e12 e13 e14
    rintro E S2 ⟨e0, e3, e12, e13, e14, hS2⟩
    rw [hS2]
    clear hS2 S2
    refine stageA (fun E' S' => ∃ rows, LG S 58 2 rows (E'.get 3) S' ∧ (∀ r ∈ rows, FR r) ∧ rows.length ≤ 3 * k + 3 ∧ E'.get 0 = seSl l ∧ E'.get 12 = seSl l ∧ E'.get 13 = .int .i64 l.length ∧ E'.get 14 = .int .i64 k) ?_ ?_
    · intro K hK
      refine blkA ?_
      refine stageA (GS S l k (3 * k) S1.length (seaR s) (E.get 6)) ?_ ?_
      · intro K2 hK2
        simp (disch := first | omega | (simp only [lenT]; omega)) only [e0, e3, e12, e13, e14, seSl, seaR, hc, evSt, ↓evPre, ↓evPreW, evPost, evPostW, evR, evU, seval]
        exact hK2 _ _ ⟨rows, e3 ▸ LP.start hg hf, e0, rfl, rfl, rfl, e12, e13, e14, hrl⟩
      clear hg hf hrl e0 e3 e12 e13 e14
      generalize S1.length = p
      rintro E S2 ⟨rows, h, e0, e4, e5, -, e12, e13, e14, hrl⟩
      refine stageA (GS S l k (3 * k) p (seaR s) (.str at_)) ?_ ?_
      · intro K2 hK2
        simp (disch := first | omega | (simp only [lenT]; omega)) only [e4, evSt, ↓evPre, ↓evPreW, evPost, evPostW, evR, evU, seval]
        refine (itoa_A k _ (by omega)).then ?_
        simp (disch := first | omega | (simp only [lenT]; omega)) only [hadd, evSt, ↓evPre, ↓evPreW, evPost, evPostW, evR, evU, seval]
        exact hK2 _ _ ⟨rows, h, e0, e4, e5, rfl, e12, e13, e14, hrl⟩
      clear h e0 e4 e5 e12 e13 e14 hrl
      rintro E S2 ⟨rows, h, e0, e4, e5, e6, e12, e13, e14, hrl⟩
      refine stageA (GS S l k (3 * k + 1) p (seaR s) (.str at_)) ?_ ?_
      · intro K2 hK2
        have hob := h.obj
        unfold seaR at hob
        cases q1 : decide (s.row < 1) <;> cases q2 : decide (999 < s.row) <;> cases q3 : decide (s.has < 0) <;> cases q4 : decide (15 < s.has) <;> simp (disch := first | omega | (simp only [lenT]; omega)) only [e5, hob, q1, q2, q3, q4, evSt, ↓evPre, ↓evPreW, evPost, evPostW, evR, evU, seval]
        all_goals first
          | exact hK2 _ _ ⟨rows, h, e0, e4, e5, e6, e12, e13, e14, by omega⟩
          | (simp (disch := first | omega | (simp only [lenT]; omega)) only [e6, evSt, ↓evPre, ↓evPreW, evPost, evPostW, evR, evU, seval]
             refine h.app ⟨rfl, rfl⟩ (by omega) fun v' S3 h2 => ?_
             simp (disch := first | omega | (simp only [lenT]; omega)) only [evSt, ↓evPre, ↓evPreW, evPost, evPostW, evR, evU, seval]
             exact hK2 _ _ ⟨_, h2, e0, e4, e5, e6, e12, e13, e14, by simp only [List.length_append, List.length_singleton]; omega⟩)
      clear h e0 e4 e5 e6 e12 e13 e14 hrl
      rintro E S2 ⟨rows, h, e0, e4, e5, e6, e12, e13, e14, hrl⟩
      refine stageA (GS S l k (3 * k + 2) p (seaR s) (.str at_)) ?_ ?_
      · intro K2 hK2
        have hob := h.obj
        unfold seaR at hob
        rcases hL : s.letter with _ | ⟨c, _ | ⟨d, r⟩⟩
        · rw [hL] at hob
          simp (disch := first | omega | (simp only [lenT]; omega)) only [e5, e6, hob, List.length_nil, evSt, ↓evPre, ↓evPreW, evPost, evPostW, evR, evU, seval]
          all_goals first
            | exact hK2 _ _ ⟨rows, h, e0, e4, e5, e6, e12, e13, e14, by omega⟩
            | (refine h.app ⟨rfl, rfl⟩ (by omega) fun v' S3 h2 => ?_
               simp (disch := first | omega | (simp only [lenT]; omega)) only [evSt, ↓evPre, ↓evPreW, evPost, evPostW, evR, evU, seval]
               exact hK2 _ _ ⟨_, h2, e0, e4, e5, e6, e12, e13, e14, by simp only [List.length_append, List.length_singleton]; omega⟩)
        · rw [hL] at hob
          cases q1 : decide ((c.toNat : Int) < 65) <;> cases q2 : decide ((90 : Int) < c.toNat) <;> simp (disch := first | omega | (simp only [lenT]; omega)) only [e5, e6, hob, q1, q2, List.length_cons, List.length_nil, evSt, ↓evPre, ↓evPreW, evPost, evPostW, evR, evU, seval]
          all_goals first
            | exact hK2 _ _ ⟨rows, h, e0, e4, e5, e6, e12, e13, e14, by omega⟩
            | (refine h.app ⟨rfl, rfl⟩ (by omega) fun v' S3 h2 => ?_
               simp (disch := first | omega | (simp only [lenT]; omega)) only [evSt, ↓evPre, ↓evPreW, evPost, evPostW, evR, evU, seval]
               exact hK2 _ _ ⟨_, h2, e0, e4, e5, e6, e12, e13, e14, by simp only [List.length_append, List.length_singleton]; omega⟩)
        · rw [hL] at hob
          have hne : ¬ ((r.length + 1 + 1 : Nat) : Int) = 1 := by omega
          simp (disch := first | omega | (simp only [lenT]; omega)) only [e5, e6, hob, hne, List.length_cons, List.length_nil, evSt, ↓evPre, ↓evPreW, evPost, evPostW, evR, evU, seval]
          all_goals first
            | exact hK2 _ _ ⟨rows, h, e0, e4, e5, e6, e12, e13, e14, by omega⟩
            | (refine h.app ⟨rfl, rfl⟩ (by omega) fun v' S3 h2 => ?_
               simp (disch := first | omega | (simp only [lenT]; omega)) only [evSt, ↓evPre, ↓evPreW, evPost, evPostW, evR, evU, seval]
               exact hK2 _ _ ⟨_, h2, e0, e4, e5, e6, e12, e13, e14, by simp only [List.length_append, List.length_singleton]; omega⟩)
      clear h e0 e4 e5 e6 e12 e13 e14 hrl
      rintro E S2 ⟨rows, h, e0, e4, e5, e6, e12, e13, e14, hrl⟩
      have hob := h.obj
      have hkl : (k : Int) ≤ l.length := by omega
      simp (disch := first | omega | (simp only [lenT]; omega)) only [e0, e4, e5, seSl, et, hkl, evSt, ↓evPre, ↓evPreW, evPost, evPostW, evR, evU, seval]
      have hany := anySame_A (l.take k) s p S2 htl hob
      simp only [seSl] at hany
      refine hany.then ?_
      cases qa : (l.take k).any (sameS s) <;> simp (disch := first | omega | (simp only [lenT]; omega)) only [evSt, ↓evPre, ↓evPreW, evPost, evPostW, evR, evU, seval]
      all_goals first
        | exact hK _ _ ⟨rows, h.lg, h.fr, by omega, e0, e12, e13, e14⟩
        | (simp (disch := first | omega | (simp only [lenT]; omega)) only [e6, evSt, ↓evPre, ↓evPreW, evPost, evPostW, evR, evU, seval]
           refine h.app ⟨rfl, rfl⟩ (by omega) fun v' S3 h2 => ?_
           simp (disch := first | omega | (simp only [lenT]; omega)) only [evSt, ↓evPre, ↓evPreW, evPost, evPostW, evR, evU, seval]
           exact hK _ _ ⟨_, h2.lg, h2.fr, by simp only [List.length_append, List.length_singleton]; omega, e0, e12, e13, e14⟩)
    rintro E S2 ⟨rows, hg, hf, hrl, e0, e12, e13, e14⟩
    simp (disch := first | omega | (simp only [lenT]; omega)) only [e14, wrap_i64, hk1, evSt, ↓evPre, ↓evPreW, evPost, evPostW, evR, evU, seval]
    exact ⟨(k + 1, rows, E.get 3, S2), ⟨by simp only; omega, hg, by simp only; omega, hf⟩, by simp only; omega, by simp only [e0, e12, e13, ↓evPre, ↓evPreW, evPost, evPostW, evR, evU, seval], rfl⟩
end Go.Proofs.YtjjdfkkfhbndiaaDoor.St
