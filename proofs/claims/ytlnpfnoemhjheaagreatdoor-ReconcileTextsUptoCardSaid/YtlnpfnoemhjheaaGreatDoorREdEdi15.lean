/- The reference's reader: a component. -/
import Derived.Test.YtlnpfnoemhjheaaGreatDoorREdEdi13
namespace Go.Proofs.YtlnpfnoemhjheaaGreatDoor.Ed
open Go Go.AL
set_option linter.unusedSectionVars false
variable [Go.AL.Mode] [Go.AL.LooseM]
set_option linter.unusedSimpArgs false
set_option linter.unusedVariables false
def compF : Txt → Option Txt × Nat
  | [] => (none, 0)
  | c :: r =>
    if c.toNat = 43 ∨ c.toNat = 58 ∨ c.toNat = 39 then (some [], 0)
    else if oddC c then (none, 0)
    else if c.toNat = 63 then
      match r with
      | [] => (none, 1)
      | d :: r' => if specC d then ((compF r').1.map (d :: ·), (compF r').2 + 2) else (none, 1)
    else ((compF r).1.map (c :: ·), (compF r).2 + 1)
termination_by l => l.length
theorem compF_cons (c : UInt8) (r : Txt) : compF (c :: r) =
    if c.toNat = 43 ∨ c.toNat = 58 ∨ c.toNat = 39 then (some [], 0)
    else if oddC c then (none, 0)
    else if c.toNat = 63 then
      match r with
      | [] => (none, 1)
      | d :: r' => if specC d then ((compF r').1.map (d :: ·), (compF r').2 + 2) else (none, 1)
    else ((compF r).1.map (c :: ·), (compF r).2 + 1) := by rw [compF.eq_def]; first | rfl | simp only
theorem compF_nil : compF [] = (none, 0) := by rw [compF.eq_def]
theorem neat_box {S T : Store} {s : Txt} {k k' : Nat} {b b' : Bool} (h : Neat (S ++ ⟨0, some (.arr 129 3 [[.str s, .int .i64 k, .bool b]])⟩ :: T)) : Neat (S ++ ⟨0, some (.arr 129 3 [[.str s, .int .i64 k', .bool b']])⟩ :: T) := by
  have hl : (S ++ ⟨0, some (.arr 129 3 [[.str s, .int .i64 k', .bool b']])⟩ :: T : Store).length = (S ++ ⟨0, some (.arr 129 3 [[.str s, .int .i64 k, .bool b]])⟩ :: T : Store).length := by simp
  refine ⟨?_, fun id ver m hs => ?_⟩
  rotate_left
  · rw [hl]
    refine h.2 id ver m ?_
    by_cases hid : id = S.length
    · subst hid
      rw [List.getElem?_append_right (Nat.le_refl _), Nat.sub_self] at hs
      simp at hs
    · by_cases hlt : id < S.length
      · rw [List.getElem?_append_left hlt] at hs ⊢
        exact hs
      · obtain ⟨j, rfl⟩ : ∃ j, id = S.length + (j + 1) := ⟨id - S.length - 1, by omega⟩
        rw [List.getElem?_append_right (by omega), Nat.add_sub_cancel_left] at hs ⊢
        simpa using hs
  intro id ver e sz rows hs r hr
  by_cases hid : id = S.length
  · subst hid
    rw [List.getElem?_append_right (Nat.le_refl _), Nat.sub_self] at hs
    simp at hs
    obtain ⟨_, rfl, rfl, rfl⟩ := hs
    simp at hr
    subst hr
    exact ⟨rfl, rfl⟩
  · rw [hl]
    refine h.1 id ver e sz rows ?_ r hr
    by_cases hlt : id < S.length
    · rw [List.getElem?_append_left hlt] at hs ⊢
      exact hs
    · obtain ⟨j, rfl⟩ : ∃ j, id = S.length + (j + 1) := ⟨id - S.length - 1, by omega⟩
      rw [List.getElem?_append_right (by omega), Nat.add_sub_cancel_left] at hs ⊢
      simpa using hs
def CompPost (s : Txt) (k : Nat) (S T : Store) (r : V) (S' : Store) : Prop :=
  match compF (s.drop k) with
  | (some t, n) => r = .str t ∧ S' = S ++ ⟨0, some (.arr 129 3 [[.str s, .int .i64 (k + n : Nat), .bool false]])⟩ :: T
  | (none, n) => r = .str [] ∧ S' = S ++ ⟨0, some (.arr 129 3 [[.str s, .int .i64 (k + n : Nat), .bool true]])⟩ :: T
def CompEnd (s : Txt) (k : Nat) (S T : Store) (r : V) (S' : Store) : Prop :=
  ∃ r1 S1, Fgt S' S1 ∧ Frz S' S1 r r1 ∧ (S ++ ⟨0, some (.arr 129 3 [[.str s, .int .i64 k, .bool false]])⟩ :: T).length ≤ S1.length ∧ CompPost s k S T r1 S1
theorem comp_end {s : Txt} {k m : Nat} {b : Bool} {S T L : Store} {t : Txt} (hn : Neat (S ++ ⟨0, some (.arr 129 3 [[.str s, .int .i64 k, .bool false]])⟩ :: T))
    (h : CompPost s k S T (.str t) (S ++ ⟨0, some (.arr 129 3 [[.str s, .int .i64 (k + m : Nat), .bool b]])⟩ :: T)) : CompEnd s k S T (.str t) (S ++ ⟨0, some (.arr 129 3 [[.str s, .int .i64 (k + m : Nat), .bool b]])⟩ :: (T ++ L)) := by
  refine ⟨.str t, S ++ ⟨0, some (.arr 129 3 [[.str s, .int .i64 (k + m : Nat), .bool b]])⟩ :: T, ?_, .imm rfl, by simp, h⟩
  have := (neat_box (k' := k + m) (b' := b) hn).fgt L
  simpa using this
theorem obj_push2 {T : Store} {v : Nat} {t : TypeId} {sz : Nat} {rows : List (List V)} : Store.obj? (T ++ [⟨v, some (.arr t sz rows)⟩]) T.length v = some (t, sz, rows) := obj_push
theorem set_push {T : Store} {o o' : AL.Obj} : (T ++ [o] : Store).set T.length o' = T ++ [o'] := by
  rw [List.set_append_right _ _ (Nat.le_refl _), Nat.sub_self]; rfl
set_option maxHeartbeats 1000000 in
set_option maxRecDepth 20000 in
theorem component_A (s : Txt) (k : Nat) (S T : Store) (hs : s.length ≤ 65536) (hk : k ≤ s.length) :
    CallA Tryz.prog 91 [.ptr S.length 0 0 0] (S ++ ⟨0, some (.arr 129 3 [[.str s, .int .i64 k, .bool false]])⟩ :: T) (CompPost s k S T) := by
  refine CallA.withNeat Tryz.func91 c8050 fun hn => ?_
  refine CallA.fin Tryz.func91 c8050 (Nat.le_of_ble_eq_true rfl) fun σ hσ => ?_
  change wpA Tryz.prog a8050.N σ a8050.code (retK a8050.res (CompEnd s k S T)) _ _
  simp (disch := first | omega | (simp only [lenT]; omega)) only [a8050, ↓evPre, ↓evPreW, evPost, evPostW, evR, evU, seval]
  refine LoopA.ghost 3 0 5 1 (by simp only [↓evPre, ↓evPreW, evPost, evPostW, evR, evU, seval]) ?_
  simp only [ap_app, le_app, List.cons_append, List.length_cons]
  refine loopA (ι := Nat × Txt) (fun i => [(0, .ptr S.length 0 0 0), (3, .msl (S.length + (T.length + 1)) i.2.length 0 i.2.length)]) (fun i => S ++ ⟨0, some (.arr 129 3 [[.str s, .int .i64 (k + i.1 : Nat), .bool false]])⟩ :: (T ++ [⟨i.2.length, some (.arr 5 1 (byteRows i.2))⟩]))
    (fun i => k + i.1 ≤ s.length ∧ i.2.length ≤ i.1 ∧ compF (s.drop k) = ((compF (s.drop (k + i.1))).1.map (i.2 ++ ·), (compF (s.drop (k + i.1))).2 + i.1)) (fun i => s.length - (k + i.1)) (0, []) ⟨by simp only; omega, Nat.le_refl _, by simp⟩ ?_ (by simp [byteRows]) ?_
  · simp only [↓evPre, ↓evPreW, evPost, evPostW, evR, evU, seval]
  · rintro ⟨d, t⟩ ⟨hkd, htl, hfin⟩
    simp only at hkd htl hfin ⊢
    have bad : ∀ (m : Nat) (t' : Txt) (L : Store), compF (s.drop k) = (none, m) → CompEnd s k S T (.str []) (S ++ ⟨0, some (.arr 129 3 [[.str s, .int .i64 (k + m : Nat), .bool true]])⟩ :: (T ++ L)) := fun m t' L h => comp_end hn (by simp only [CompPost, h, and_self])
    cases hc : s[k + d]? with
    | none =>
      have hlt : ¬ ((k + d : Nat) : Int) < (s.length : Int) := by have := List.getElem?_eq_none_iff.1 hc; omega
      rw [show s.drop (k + d) = [] from List.drop_eq_nil_of_le (by have := List.getElem?_eq_none_iff.1 hc; omega), compF_nil] at hfin
      simp (disch := first | omega | (simp only [lenT]; omega)) only [hlt, wrap_i64, ob_app, ob_app0, ob_cons, ob_head, se_app, se_app0, se_cons, se_head, ↓evPre, ↓evPreW, evPost, evPostW, evR, evU, seval]
      exact bad d t _ (by rw [hfin]; simp)
    | some c =>
      have hltn := (List.getElem?_eq_some_iff.1 hc).1
      have hlt : ((k + d : Nat) : Int) < (s.length : Int) := by omega
      have e1 : (((k + d : Nat) : Int)).toNat = k + d := by omega
      have h0 : 0 ≤ ((k + d : Nat) : Int) := by omega
      rw [drop_cons hc, compF_cons] at hfin
      by_cases hm : c.toNat = 43 ∨ c.toNat = 58 ∨ c.toNat = 39
      · rw [if_pos hm] at hfin
        have good : CompEnd s k S T (.str t) (S ++ ⟨0, some (.arr 129 3 [[.str s, .int .i64 (k + d : Nat), .bool false]])⟩ :: (T ++ [⟨t.length, some (.arr 5 1 (byteRows t))⟩])) := comp_end hn (by simp [CompPost, hfin])
        rcases hm with hm | hm | hm
        · have hi : (c.toNat : Int) = 43 := by omega
          simp (disch := first | omega | (simp only [lenT]; omega)) only [hlt, hc, e1, h0, hi, wrap_i64, ob_app, ob_app0, ob_cons, ob_head, obj_push2, b2s_msl, b2sO_some, se_app, se_app0, se_cons, se_head, ↓evPre, ↓evPreW, evPost, evPostW, evR, evU, seval]
          exact good
        · have hi : (c.toNat : Int) = 58 := by omega
          simp (disch := first | omega | (simp only [lenT]; omega)) only [hlt, hc, e1, h0, hi, wrap_i64, ob_app, ob_app0, ob_cons, ob_head, obj_push2, b2s_msl, b2sO_some, se_app, se_app0, se_cons, se_head, ↓evPre, ↓evPreW, evPost, evPostW, evR, evU, seval]
          exact good
        · have hi : (c.toNat : Int) = 39 := by omega
          simp (disch := first | omega | (simp only [lenT]; omega)) only [hlt, hc, e1, h0, hi, wrap_i64, ob_app, ob_app0, ob_cons, ob_head, obj_push2, b2s_msl, b2sO_some, se_app, se_app0, se_cons, se_head, ↓evPre, ↓evPreW, evPost, evPostW, evR, evU, seval]
          exact good
      · rw [if_neg hm] at hfin
        have m1 : ¬ (c.toNat : Int) = 43 := by omega
        have m2 : ¬ (c.toNat : Int) = 58 := by omega
        have m3 : ¬ (c.toNat : Int) = 39 := by omega
        by_cases h1 : (c.toNat : Int) < 32
        · have ho : oddC c = true := by simp [oddC]; omega
          rw [if_pos ho] at hfin
          simp (disch := first | omega | (simp only [lenT]; omega)) only [hlt, hc, e1, h0, m1, m2, m3, h1, decide_true, decide_false, wrap_i64, ob_app, ob_app0, ob_cons, ob_head, se_app, se_app0, se_cons, se_head, ↓evPre, ↓evPreW, evPost, evPostW, evR, evU, seval]
          exact bad d t _ (by rw [hfin]; simp)
        · by_cases h2 : 126 < (c.toNat : Int)
          · have ho : oddC c = true := by simp [oddC]; omega
            rw [if_pos ho] at hfin
            simp (disch := first | omega | (simp only [lenT]; omega)) only [hlt, hc, e1, h0, m1, m2, m3, h1, h2, decide_true, decide_false, wrap_i64, ob_app, ob_app0, ob_cons, ob_head, se_app, se_app0, se_cons, se_head, ↓evPre, ↓evPreW, evPost, evPostW, evR, evU, seval]
            exact bad d t _ (by rw [hfin]; simp)
          · have ho : ¬ oddC c = true := by simp [oddC]; omega
            rw [if_neg ho] at hfin
            have hnx : ((k + d : Nat) : Int) + 1 = ((k + (d + 1) : Nat) : Int) := by omega
            have hnx2 : ((k + (d + 1) : Nat) : Int) + 1 = ((k + (d + 2) : Nat) : Int) := by omega
            by_cases h63 : (c.toNat : Int) = 63
            · rw [if_pos (by omega)] at hfin
              have hi63 : c.toNat = 63 := by omega
              cases he : s[k + (d + 1)]? with
              | none =>
                have hend : ((k + (d + 1) : Nat) : Int) = (s.length : Int) := by have := List.getElem?_eq_none_iff.1 he; omega
                rw [show s.drop (k + d + 1) = [] from List.drop_eq_nil_of_le (by omega)] at hfin
                simp (disch := first | omega | (simp only [lenT]; omega)) only [hlt, hc, e1, h0, h63, hnx, hend, decide_true, decide_false, wrap_i64, ob_app, ob_app0, ob_cons, ob_head, se_app, se_app0, se_cons, se_head, ↓evPre, ↓evPreW, evPost, evPostW, evR, evU, seval]
                rw [← hend]
                exact bad (d + 1) t _ (by rw [hfin]; simp [Nat.add_comm])
              | some b =>
                have hbl := (List.getElem?_eq_some_iff.1 he).1
                have hne : ¬ ((k + (d + 1) : Nat) : Int) = (s.length : Int) := by omega
                have e2 : (((k + (d + 1) : Nat) : Int)).toNat = k + (d + 1) := by omega
                have h02 : 0 ≤ ((k + (d + 1) : Nat) : Int) := by omega
                rw [Nat.add_assoc, drop_cons he] at hfin
                simp only at hfin
                simp (disch := first | omega | (simp only [lenT]; omega)) only [hlt, hc, he, e1, e2, h0, h02, h63, hnx, hne, decide_true, decide_false, wrap_i64, ob_app, ob_app0, ob_cons, ob_head, se_app, se_app0, se_cons, se_head, ↓evPre, ↓evPreW, evPost, evPostW, evR, evU, seval]
                refine (special_A b _).then ?_
                cases hsp : specC b
                · rw [hsp] at hfin
                  simp (disch := first | omega | (simp only [lenT]; omega)) only [Bool.not_false, Bool.not_true, e2, h02, he, wrap_i64, ob_app, ob_app0, ob_cons, ob_head, se_app, se_app0, se_cons, se_head, ↓evPre, ↓evPreW, evPost, evPostW, evR, evU, seval]
                  exact bad (d + 1) t _ (by rw [hfin]; simp [Nat.add_comm])
                · rw [hsp] at hfin
                  simp (disch := first | omega | (simp only [lenT]; omega)) only [Bool.not_false, Bool.not_true, e2, h02, he, hnx2, wrap_i64, ob_app, ob_app0, ob_cons, ob_head, obj_push2, set_push, byteRows_len, byteRows_snoc, se_app, se_app0, se_cons, se_head, ↓evPre, ↓evPreW, evPost, evPostW, evR, evU, seval]
                  refine ⟨by unfold roomA; omega, (d + 2, t ++ [b]), ⟨by simp only; omega, by simp; omega, ?_⟩, by simp only; omega, by simp, by simp⟩
                  simp only [if_true] at hfin
                  simp only
                  rw [hfin, show k + (d + 1) + 1 = k + (d + 2) by omega]
                  cases (compF (s.drop (k + (d + 2)))).1 <;> simp [Nat.add_assoc, Nat.add_comm 2 d]
            · rw [if_neg (by omega)] at hfin
              simp (disch := first | omega | (simp only [lenT]; omega)) only [hlt, hc, e1, h0, m1, m2, m3, h1, h2, h63, hnx, decide_true, decide_false, wrap_i64, ob_app, ob_app0, ob_cons, ob_head, obj_push2, set_push, byteRows_len, byteRows_snoc, se_app, se_app0, se_cons, se_head, ↓evPre, ↓evPreW, evPost, evPostW, evR, evU, seval]
              refine ⟨by unfold roomA; omega, (d + 1, t ++ [c]), ⟨by simp only; omega, by simp; omega, ?_⟩, by simp only; omega, by simp, by simp⟩
              simp only
              rw [hfin, Nat.add_assoc k d 1]
              cases (compF (s.drop (k + (d + 1)))).1 <;> simp [Nat.add_assoc, Nat.add_comm 1 d]
end Go.Proofs.YtlnpfnoemhjheaaGreatDoor.Ed
/- The reference's reader: a line (states). -/
namespace Go.Proofs.YtlnpfnoemhjheaaGreatDoor.Ed
open Go Go.AL
set_option linter.unusedSectionVars false
variable [Go.AL.Mode] [Go.AL.LooseM]
set_option linter.unusedSimpArgs false
set_option linter.unusedVariables false
def FinR (S T : Store) (m B : Nat) (v : V) (e : List Txt) : Prop := ∃ j w, (m ≤ j ∧ j < B) ∧ v = .msl (S.length + (j + 1)) w 0 e.length ∧ T.obj? j w = some (9, 1, e.map cmR)
def ElmR (S T : Store) (m B : Nat) (cs : List V) (els : List (List Txt)) : Prop := cs.length = els.length ∧ ∀ (i : Nat) (v : V) (x : List Txt), cs[i]? = some v → els[i]? = some x → FinR S T m B v x
theorem FinR.pres {S T T' : Store} {m B : Nat} {v : V} {e : List Txt} (h : FinR S T m B v e) (hp : PresB B 9 T T') : FinR S T' m B v e := by
  obtain ⟨j, w, h1, h2, h3⟩ := h
  exact ⟨j, w, h1, h2, hp _ _ _ _ h1.2 h3⟩
theorem FinR.mono {S T : Store} {m B B' : Nat} {v : V} {e : List Txt} (h : FinR S T m B v e) (hb : B ≤ B') : FinR S T m B' v e := by
  obtain ⟨j, w, h1, h2, h3⟩ := h
  exact ⟨j, w, by omega, h2, h3⟩
theorem ElmR.pres {S T T' : Store} {m B : Nat} {cs : List V} {els : List (List Txt)} (h : ElmR S T m B cs els) (hp : PresB B 9 T T') : ElmR S T' m B cs els := ⟨h.1, fun i v x hv hx => (h.2 i v x hv hx).pres hp⟩
theorem ElmR.mono {S T : Store} {m B B' : Nat} {cs : List V} {els : List (List Txt)} (h : ElmR S T m B cs els) (hb : B ≤ B') : ElmR S T m B' cs els := ⟨h.1, fun i v x hv hx => (h.2 i v x hv hx).mono hb⟩
theorem ElmR.snoc {S T : Store} {m B : Nat} {cs : List V} {els : List (List Txt)} {c : V} {e : List Txt} (h : ElmR S T m B cs els) (hc : FinR S T m B c e) : ElmR S T m B (cs ++ [c]) (els ++ [e]) := by
  refine ⟨by simp [h.1], fun i v x hv hx => ?_⟩
  by_cases hi : i < cs.length
  · rw [List.getElem?_append_left hi] at hv
    rw [List.getElem?_append_left (by rw [← h.1]; exact hi)] at hx
    exact h.2 i v x hv hx
  · rw [List.getElem?_append_right (by omega)] at hv
    rw [List.getElem?_append_right (by rw [← h.1]; omega)] at hx
    have hlt := (List.getElem?_eq_some_iff.1 hv).1
    simp only [List.length_cons, List.length_nil] at hlt
    have : i = cs.length := by omega
    subst this
    rw [Nat.sub_self] at hv
    rw [h.1, Nat.sub_self] at hx
    simp at hv hx
    subst hv hx
    exact hc
end Go.Proofs.YtlnpfnoemhjheaaGreatDoor.Ed
/- What the reference's loops do, told by the machine. -/
namespace Go.Proofs.YtlnpfnoemhjheaaGreatDoor.Ed
open Go Go.AL
set_option linter.unusedSectionVars false
variable [Go.AL.Mode] [Go.AL.LooseM]
set_option linter.unusedSimpArgs false
set_option linter.unusedVariables false
def headF (els : List (List Txt)) : Txt → Option (List (List Txt)) × Nat
  | [] => (none, 0)
  | c :: r => if c.toNat = 43 then shift 1 (mach els (some ([], [])) r) else if c.toNat = 39 then (some els, 1) else (none, 0)
def head2F (els : List (List Txt)) (comps : List Txt) : Txt → Option (List (List Txt)) × Nat
  | [] => headF (els ++ [comps]) []
  | c :: r => if c.toNat = 58 then shift 1 (mach els (some (comps, [])) r) else headF (els ++ [comps]) (c :: r)
theorem spec_cases {c : UInt8} : specC c = true ↔ c.toNat = 43 ∨ c.toNat = 58 ∨ c.toNat = 39 ∨ c.toNat = 63 := by
  simp [specC, or_assoc]
theorem head_init (l : Txt) : mach [] none l = headF [] l := by
  cases l with
  | nil => rw [mach.eq_def]; rfl
  | cons c r =>
    rw [mach.eq_def]
    simp only [headF]
    by_cases h63 : c.toNat = 63
    · have g1 : ¬ c.toNat = 43 := by omega
      have g2 : ¬ c.toNat = 39 := by omega
      rw [if_pos h63, if_neg g1, if_neg g2]
      cases r <;> simp
    · rw [if_neg h63]
      by_cases ho : oddC c = true
      · have h1 : ¬ c.toNat = 43 := by simp [oddC] at ho; omega
        have h2 : ¬ c.toNat = 39 := by simp [oddC] at ho; omega
        rw [if_pos ho, if_neg h1, if_neg h2]
      · rw [if_neg ho]
        by_cases hs : specC c = true
        · rw [if_pos hs]
          have := spec_cases.1 hs
          by_cases h58 : c.toNat = 58
          · simp [h58]
          · by_cases h43 : c.toNat = 43
            · simp [h43, shift]
            · have h39 : c.toNat = 39 := by omega
              simp [h39]
        · have := mt spec_cases.2 hs
          have g1 : ¬ c.toNat = 43 := by omega
          have g2 : ¬ c.toNat = 39 := by omega
          rw [if_neg hs, if_neg g1, if_neg g2]
theorem comp_mach : ∀ (n : Nat) (l : Txt), l.length ≤ n → ∀ (els : List (List Txt)) (comps : List Txt) (t : Txt), mach els (some (comps, t)) l =
    (match compF l with
     | (none, m) => (none, m)
     | (some u, m) => shift m (head2F els (comps ++ [t ++ u]) (l.drop m)))
  | n, [], h, els, comps, t => by rw [mach.eq_def, compF_nil]
  | 0, c :: r, h, els, comps, t => by simp at h
  | n + 1, c :: r, h, els, comps, t => by
    simp only [List.length_cons] at h
    rw [mach.eq_def, compF_cons]
    simp only
    by_cases h63 : c.toNat = 63
    · have hm : ¬ (c.toNat = 43 ∨ c.toNat = 58 ∨ c.toNat = 39) := by omega
      have ho : ¬ oddC c = true := by simp [oddC, h63]
      rw [if_pos h63, if_neg hm, if_neg ho, if_pos h63]
      cases r with
      | nil => simp
      | cons d r' =>
        simp only [List.length_cons] at h
        simp only
        cases hd : specC d
        · simp
        · have ih := comp_mach n r' (by omega) els comps (t ++ [d])
          simp only [if_true]
          rw [ih]
          generalize compF r' = q
          obtain ⟨qu, qm⟩ := q
          cases qu <;> simp [shift, Nat.add_assoc, List.append_assoc]
    · rw [if_neg h63]
      by_cases hm : c.toNat = 43 ∨ c.toNat = 58 ∨ c.toNat = 39
      · have ho : ¬ oddC c = true := by simp [oddC]; omega
        have hs : specC c = true := spec_cases.2 (by omega)
        rw [if_neg ho, if_pos hs, if_pos hm]
        rcases hm with hm | hm | hm <;> simp [hm, head2F, headF, shift]
      · rw [if_neg hm]
        by_cases ho : oddC c = true
        · rw [if_pos ho, if_pos ho]
        · have hs : ¬ specC c = true := mt spec_cases.1 (by omega)
          rw [if_neg ho, if_neg ho, if_neg hs, if_neg h63]
          have ih := comp_mach n r (by omega) els comps (t ++ [c])
          rw [ih]
          generalize compF r = q
          obtain ⟨qu, qm⟩ := q
          cases qu <;> simp [shift, Nat.add_assoc, List.append_assoc]
end Go.Proofs.YtlnpfnoemhjheaaGreatDoor.Ed
