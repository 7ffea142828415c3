/- The reference's look at places, and at a timetable. -/
import Derived.Test.YtiihkfjbllpiaaaGreatDoorQSchG
import Derived.Test.YtiihkfjbllpiaaaGreatDoorQSchT
namespace Go.Proofs.YtiihkfjbllpiaaaGreatDoor
open Go Go.AL
set_option linter.unusedSectionVars false
variable [Go.AL.Mode] [Go.AL.LooseM]
set_option linter.unusedSimpArgs false
set_option linter.unusedVariables false

def txApt : Txt := [97, 105, 114, 112, 111, 114, 116, 32]
def txDst : Txt := [100, 105, 115, 116, 97, 110, 99, 101, 32]
/-- Places of a bulk that a machine holds. -/
structure PSm (p : Pls) : Prop where
  h1 : p.1.length ≤ 1100000
  h2 : p.2.length ≤ 1100000
  h3 : ∀ a ∈ p.1, a.sh.length ≤ 1100000
set_option maxHeartbeats 4000000 in
theorem rplaces_A (p : Pls) (hp : PSm p) (S : Store) : CallA Tryz.prog 44 [plV p] S fun r S' => ∃ l : List Ft, r = .sl 2 (l.map ftR) ∧ (l = [] → ∀ a ∈ p.1, a.sh.length ≤ 256) ∧ S' = S := by
  refine CallA.withNeat Tryz.func44 c544 fun hn => ?_
  refine CallA.fin Tryz.func44 c544 (Nat.le_of_ble_eq_true rfl) fun σ hσ => ?_
  obtain ⟨hp1, hp2, hp3⟩ := hp
  simp (disch := first | omega | (simp only [lenT]; omega)) only [a544, plV, evSt, ↓evPre, ↓evPreW, evPost, evPostW, evR, evU, seval]
  refine loopA (ι := Nat × List Ft) (fun i => [(1, .cptr [.sl 5 (p.1.map aptR), .sl 3 (p.2.map dstR)]), (3, accV S.length (i.2.map ftR)), (4, .int .i64 (i.1 : Nat))]) (fun i => S ++ accT 78 2 (i.2.map ftR))
    (fun i => i.1 ≤ p.1.length ∧ i.2.length ≤ 4 * i.1 ∧ (i.2 = [] → ∀ (j : Nat) (a : Apt), j < i.1 → p.1[j]? = some a → a.sh.length ≤ 256)) (fun i => p.1.length - i.1) (0, []) ⟨Nat.zero_le _, by simp, fun _ j a hj => by simp at hj⟩ ?_ (by simp [accT]) ?_
  · simp only [List.map_nil, accV_nil, ↓evPre, ↓evPreW, evPost, evPostW, evR, evU, seval]
    try rfl
  rintro ⟨i, fs⟩ ⟨hi, hfl, hfz⟩
  simp only at hi hfl hfz ⊢
  cases hc : p.1[i]? with
  | none =>
    have hge := List.getElem?_eq_none_iff.1 hc
    have hlt : ¬ ((i : Int) < p.1.length) := by omega
    simp (disch := first | omega | (simp only [lenT]; omega)) only [dF hlt, evSt, ↓evPre, ↓evPreW, evPost, evPostW, evR, evU, seval]
    have hz : fs = [] → ∀ a ∈ p.1, a.sh.length ≤ 256 := fun h a ha => by
      obtain ⟨j, hj⟩ := List.getElem?_of_mem ha
      have := (List.getElem?_eq_some_iff.1 hj).1
      exact hfz h j a (by omega) hj
    refine loopA (ι := Nat × List Ft) (fun i => [(1, .cptr [.sl 5 (p.1.map aptR), .sl 3 (p.2.map dstR)]), (3, accV S.length (i.2.map ftR)), (7, .int .i64 (i.1 : Nat))]) (fun i => S ++ accT 78 2 (i.2.map ftR))
      (fun i => i.1 ≤ p.2.length ∧ i.2.length ≤ 4400000 + 4 * i.1 ∧ (i.2 = [] → ∀ a ∈ p.1, a.sh.length ≤ 256)) (fun i => p.2.length - i.1) (0, fs) ⟨Nat.zero_le _, by simp only; omega, hz⟩ ?_ rfl ?_
    · simp only [↓evPre, ↓evPreW, evPost, evPostW, evR, evU, seval]
      try rfl
    rintro ⟨i, gs⟩ ⟨hi, hgl, hgz⟩
    simp only at hi hgl hgz ⊢
    cases hcd : p.2[i]? with
    | none =>
      have hge := List.getElem?_eq_none_iff.1 hcd
      have hlt : ¬ ((i : Int) < p.2.length) := by omega
      simp (disch := first | omega | (simp only [lenT]; omega)) only [dF hlt, evSt, ↓evPre, ↓evPreW, evPost, evPostW, evR, evU, seval]
      exact ⟨_, S, hn.fgt _, frz_acc (ftR_imm gs), Nat.le_refl _, gs, rfl, hgz, rfl⟩
    | some d =>
      have hlt' := (List.getElem?_eq_some_iff.1 hcd).1
      have hlt : ((i : Int) < p.2.length) := by omega
      have hi1 : (i : Int) + 1 = ((i + 1 : Nat) : Int) := by omega
      have hg := fun S => rdst_A p (by omega) (by omega) i d hcd S
      simp only [plV] at hg
      have hadd : binV .add (.str [100, 105, 115, 116, 97, 110, 99, 101, 32]) (.str (decX i)) = some (.str (txDst ++ decX i)) := bs_add (by have := decX_len i; simp only [List.length_cons, List.length_nil]; unfold maxLen; omega)
      simp (disch := first | omega | (simp only [lenT]; omega)) only [dT hlt, evSt, ↓evPre, ↓evPreW, evPost, evPostW, evR, evU, seval]
      refine (hg _).mono ?_
      rintro _ _ ⟨es, rfl, hle, rfl⟩
      simp (disch := first | omega | (simp only [lenT]; omega)) only [evSt, ↓evPre, ↓evPreW, evPost, evPostW, evR, evU, seval]
      refine loopA (ι := Nat) (fun k => [(1, .cptr [.sl 5 (p.1.map aptR), .sl 3 (p.2.map dstR)]), (3, accV S.length ((gs ++ (es.take k).map fun e => (⟨e, txDst ++ decX i⟩ : Ft)).map ftR)), (7, .int .i64 (i : Nat)), (8, .sl 1 (es.map inR)), (9, .int .i64 (k : Nat))]) (fun k => S ++ accT 78 2 ((gs ++ (es.take k).map fun e => (⟨e, txDst ++ decX i⟩ : Ft)).map ftR))
        (fun k => k ≤ es.length) (fun k => es.length - k) 0 (Nat.zero_le _) ?_ (by simp) ?_
      · simp only [List.map_nil, List.append_nil, ↓evPre, ↓evPreW, evPost, evPostW, evR, evU, seval]
        try rfl
      intro k hk
      cases hce : es[k]? with
      | none =>
        have hge := List.getElem?_eq_none_iff.1 hce
        have hltk : ¬ ((k : Int) < es.length) := by omega
        simp (disch := first | omega | (simp only [lenT]; omega)) only [dF hltk, wrap_i64, hi1, evSt, ↓evPre, ↓evPreW, evPost, evPostW, evR, evU, seval]
        refine ⟨(i + 1, gs ++ (es.take k).map fun e => (⟨e, txDst ++ decX i⟩ : Ft)), ⟨by simp only; omega, ?_, fun h => hgz (List.append_eq_nil_iff.1 h).1⟩, by simp only; omega, ⟨rfl, rfl⟩, rfl⟩
        simp only [List.length_append, List.length_map, List.length_take]
        omega
      | some e =>
        have hltk' := (List.getElem?_eq_some_iff.1 hce).1
        have hltk : ((k : Int) < es.length) := by omega
        have hk1 : (k : Int) + 1 = ((k + 1 : Nat) : Int) := by omega
        have hst : (gs ++ (es.take (k + 1)).map fun e => (⟨e, txDst ++ decX i⟩ : Ft)).map ftR = (gs ++ (es.take k).map fun e => (⟨e, txDst ++ decX i⟩ : Ft)).map ftR ++ [[.int .i64 e, .str (txDst ++ decX i)]] := by rw [take_at hce]; simp [ftR]
        have hb0 : ((gs ++ (es.take k).map fun e => (⟨e, txDst ++ decX i⟩ : Ft)).map ftR).length < 100000000 := by simp only [List.length_map, List.length_append, List.length_take]; omega
        simp (disch := first | omega | (simp only [lenT]; omega)) only [dT hltk, hce, inR, evSt, ↓evPre, ↓evPreW, evPost, evPostW, evR, evU, seval]
        refine exD.intro (decX_A i (by omega) _) ?_
        simp (disch := first | omega | (simp only [lenT]; omega)) only [hadd, app_accL rfl hb0, wrap_i64, hk1, evSt, ↓evPre, ↓evPreW, evPost, evPostW, evR, evU, seval]
        exact ⟨k + 1, by omega, by omega, by rw [hst]; exact ⟨rfl, rfl⟩, by rw [hst]⟩
  | some a =>
    have hlt' := (List.getElem?_eq_some_iff.1 hc).1
    have hlt : ((i : Int) < p.1.length) := by omega
    have hi1 : (i : Int) + 1 = ((i + 1 : Nat) : Int) := by omega
    have hg := fun S => rapt_A p (by omega) i a hc (by have := hp3 a (List.mem_of_getElem? hc); omega) S
    simp only [plV] at hg
    have hadd : binV .add (.str [97, 105, 114, 112, 111, 114, 116, 32]) (.str (decX i)) = some (.str (txApt ++ decX i)) := bs_add (by have := decX_len i; simp only [List.length_cons, List.length_nil]; unfold maxLen; omega)
    simp (disch := first | omega | (simp only [lenT]; omega)) only [dT hlt, evSt, ↓evPre, ↓evPreW, evPost, evPostW, evR, evU, seval]
    refine (hg _).mono ?_
    rintro _ _ ⟨es, rfl, hz, hle, rfl⟩
    simp (disch := first | omega | (simp only [lenT]; omega)) only [evSt, ↓evPre, ↓evPreW, evPost, evPostW, evR, evU, seval]
    refine loopA (ι := Nat) (fun k => [(1, .cptr [.sl 5 (p.1.map aptR), .sl 3 (p.2.map dstR)]), (3, accV S.length ((fs ++ (es.take k).map fun e => (⟨e, txApt ++ decX i⟩ : Ft)).map ftR)), (4, .int .i64 (i : Nat)), (5, .sl 1 (es.map inR)), (6, .int .i64 (k : Nat))]) (fun k => S ++ accT 78 2 ((fs ++ (es.take k).map fun e => (⟨e, txApt ++ decX i⟩ : Ft)).map ftR))
      (fun k => k ≤ es.length) (fun k => es.length - k) 0 (Nat.zero_le _) ?_ (by simp) ?_
    · simp only [List.map_nil, List.append_nil, ↓evPre, ↓evPreW, evPost, evPostW, evR, evU, seval]
      try rfl
    intro k hk
    cases hce : es[k]? with
    | none =>
      have hge := List.getElem?_eq_none_iff.1 hce
      have hltk : ¬ ((k : Int) < es.length) := by omega
      simp (disch := first | omega | (simp only [lenT]; omega)) only [dF hltk, wrap_i64, hi1, evSt, ↓evPre, ↓evPreW, evPost, evPostW, evR, evU, seval]
      refine ⟨(i + 1, fs ++ (es.take k).map fun e => (⟨e, txApt ++ decX i⟩ : Ft)), ⟨by simp only; omega, ?_, fun h j b hj hb => ?_⟩, by simp only; omega, ⟨rfl, rfl⟩, rfl⟩
      · simp only [List.length_append, List.length_map, List.length_take]
        omega
      · obtain ⟨h1, h2⟩ := List.append_eq_nil_iff.1 h
        simp only at hj
        by_cases hji : j = i
        · subst hji
          rw [hc] at hb
          cases hb
          rw [List.take_of_length_le hge] at h2
          exact hz (List.map_eq_nil_iff.1 h2)
        · exact hfz h1 j b (by omega) hb
    | some e =>
      have hltk' := (List.getElem?_eq_some_iff.1 hce).1
      have hltk : ((k : Int) < es.length) := by omega
      have hk1 : (k : Int) + 1 = ((k + 1 : Nat) : Int) := by omega
      have hst : (fs ++ (es.take (k + 1)).map fun e => (⟨e, txApt ++ decX i⟩ : Ft)).map ftR = (fs ++ (es.take k).map fun e => (⟨e, txApt ++ decX i⟩ : Ft)).map ftR ++ [[.int .i64 e, .str (txApt ++ decX i)]] := by rw [take_at hce]; simp [ftR]
      have hb0 : ((fs ++ (es.take k).map fun e => (⟨e, txApt ++ decX i⟩ : Ft)).map ftR).length < 100000000 := by simp only [List.length_map, List.length_append, List.length_take]; omega
      simp (disch := first | omega | (simp only [lenT]; omega)) only [dT hltk, hce, inR, evSt, ↓evPre, ↓evPreW, evPost, evPostW, evR, evU, seval]
      refine exD.intro (decX_A i (by omega) _) ?_
      simp (disch := first | omega | (simp only [lenT]; omega)) only [hadd, app_accL rfl hb0, wrap_i64, hk1, evSt, ↓evPre, ↓evPreW, evPost, evPostW, evR, evU, seval]
      exact ⟨k + 1, by omega, by omega, by rw [hst]; exact ⟨rfl, rfl⟩, by rw [hst]⟩

def ttF (p : Pls) (l : List Fl) (T : Int → Txt) : List Ft := ttErrs p l T l.length
set_option maxHeartbeats 4000000 in
theorem rtt_A (p : Pls) (hp : POk p) (l : List Fl) (hl : l.length ≤ 50) (hx : ∀ x ∈ l, x.legs.length ≤ 1100000) (T : Int → Txt) (hP : ∀ x ∈ l, ∀ d ∈ daysF x.p, badDay p x d = true → ∀ S, CallA Tryz.prog 104 [.int .i64 d] S fun r S' => r = .str (T d) ∧ S' = S) (hT : ∀ d, (T d).length ≤ 100) (S : Store) :
    CallA Tryz.prog 15 [plV p, .sl 6 (l.map flR)] S fun r S' => r = .sl 2 ((ttF p l T).map ftR) ∧ S' = S := by
  refine CallA.withNeat Tryz.func15 c515 fun hn => ?_
  refine CallA.fin Tryz.func15 c515 (Nat.le_of_ble_eq_true rfl) fun σ hσ => ?_
  simp (disch := first | omega | (simp only [lenT]; omega)) only [a515, plV, evSt, ↓evPre, ↓evPreW, evPost, evPostW, evR, evU, seval]
  refine loopA (ι := Nat) (fun i => [(2, .cptr [.sl 5 (p.1.map aptR), .sl 3 (p.2.map dstR)]), (1, .sl 6 (l.map flR)), (5, accV S.length ((ttErrs p l T i).map ftR)), (6, .int .i64 (i : Nat))]) (fun i => S ++ accT 78 2 ((ttErrs p l T i).map ftR)) (fun i => i ≤ l.length) (fun i => l.length - i) 0 (Nat.zero_le _) ?_ (by simp [ttErrs, accT]) ?_
  · simp only [ttErrs, List.map_nil, accV_nil, ↓evPre, ↓evPreW, evPost, evPostW, evR, evU, seval]
    try rfl
  intro i hi
  have htl := ttErrs_len p l T i
  cases hc : l[i]? with
  | none =>
    have hge := List.getElem?_eq_none_iff.1 hc
    have hlt : ¬ ((i : Int) < l.length) := by omega
    have hil : i = l.length := by omega
    simp (disch := first | omega | (simp only [lenT]; omega)) only [dF hlt, evSt, ↓evPre, ↓evPreW, evPost, evPostW, evR, evU, seval]
    refine ⟨_, S, hn.fgt _, frz_acc (ftR_imm _), Nat.le_refl _, ?_, rfl⟩
    rw [hil]
    rfl
  | some x =>
    have hlt' := (List.getElem?_eq_some_iff.1 hc).1
    have hlt : ((i : Int) < l.length) := by omega
    have hi1 : (i : Int) + 1 = ((i + 1 : Nat) : Int) := by omega
    have hxm := List.mem_of_getElem? hc
    have hg := fun S => rflight_A p hp x (hx x hxm) T (hP x hxm) hT S
    simp only [plV, flR] at hg
    have hat := flErr_at p x hT
    have hel := flErr_len p x T
    have hdl := decB_len i
    have hst : ttErrs p l T (i + 1) = ttErrs p l T i ++ ((flErr p x T).map (fun f => (⟨f.err, txFl ++ decB i ++ [32] ++ f.at_⟩ : Ft)) ++ if (l.take i).any (fun y => meetsF y x) then [⟨6, txFl ++ decB i⟩] else []) := by rw [ttErrs, hc]
    generalize flErr p x T = es at hg hat hel hst
    have hadd : binV .add (.str [102, 108, 105, 103, 104, 116, 32]) (.str (decB i)) = some (.str (txFl ++ decB i)) := bs_add (by simp only [List.length_cons, List.length_nil]; unfold maxLen; omega)
    have hfl7 : txFl.length = 7 := rfl
    have hadd2 : binV .add (.str (txFl ++ decB i)) (.str [32]) = some (.str (txFl ++ decB i ++ [32])) := bs_add (by simp only [List.length_append, List.length_cons, List.length_nil]; unfold maxLen; omega)
    simp (disch := first | omega | (simp only [lenT]; omega)) only [dT hlt, evSt, ↓evPre, ↓evPreW, evPost, evPostW, evR, evU, seval]
    refine (decimal_A i _ (by omega)).then ?_
    simp (disch := first | omega | (simp only [lenT]; omega)) only [hadd, hc, flR, evSt, ↓evPre, ↓evPreW, evPost, evPostW, evR, evU, seval]
    refine (hg _).then ?_
    simp (disch := first | omega | (simp only [lenT]; omega)) only [evSt, ↓evPre, ↓evPreW, evPost, evPostW, evR, evU, seval]
    refine loopA (ι := Nat) (fun k => [(2, .cptr [.sl 5 (p.1.map aptR), .sl 3 (p.2.map dstR)]), (1, .sl 6 (l.map flR)), (5, accV S.length ((ttErrs p l T i ++ (es.take k).map fun f => (⟨f.err, txFl ++ decB i ++ [32] ++ f.at_⟩ : Ft)).map ftR)), (6, .int .i64 (i : Nat)), (7, .str (txFl ++ decB i)), (8, .sl 2 (es.map ftR)), (9, .int .i64 (k : Nat))])
      (fun k => S ++ accT 78 2 ((ttErrs p l T i ++ (es.take k).map fun f => (⟨f.err, txFl ++ decB i ++ [32] ++ f.at_⟩ : Ft)).map ftR)) (fun k => k ≤ es.length) (fun k => es.length - k) 0 (Nat.zero_le _) ?_ (by simp) ?_
    · simp only [List.map_nil, List.append_nil, ↓evPre, ↓evPreW, evPost, evPostW, evR, evU, seval]
      try rfl
    intro k hk
    cases hce : es[k]? with
    | some f =>
      have hltk' := (List.getElem?_eq_some_iff.1 hce).1
      have hltk : ((k : Int) < es.length) := by omega
      have hk1 : (k : Int) + 1 = ((k + 1 : Nat) : Int) := by omega
      have hfa := hat f (List.mem_of_getElem? hce)
      have hadd3 : binV .add (.str (txFl ++ decB i ++ [32])) (.str f.at_) = some (.str (txFl ++ decB i ++ [32] ++ f.at_)) := bs_add (by simp only [List.length_append, List.length_cons, List.length_nil]; unfold maxLen; omega)
      have hs2 : (ttErrs p l T i ++ (es.take (k + 1)).map fun f => (⟨f.err, txFl ++ decB i ++ [32] ++ f.at_⟩ : Ft)).map ftR = (ttErrs p l T i ++ (es.take k).map fun f => (⟨f.err, txFl ++ decB i ++ [32] ++ f.at_⟩ : Ft)).map ftR ++ [[.int .i64 f.err, .str (txFl ++ decB i ++ [32] ++ f.at_)]] := by rw [take_at hce]; simp [ftR]
      have hb0 : ((ttErrs p l T i ++ (es.take k).map fun f => (⟨f.err, txFl ++ decB i ++ [32] ++ f.at_⟩ : Ft)).map ftR).length < 100000000 := by simp only [List.length_map, List.length_append, List.length_take]; omega
      simp (disch := first | omega | (simp only [lenT]; omega)) only [dT hltk, hce, ftR, hadd2, hadd3, app_accL rfl hb0, wrap_i64, hk1, evSt, ↓evPre, ↓evPreW, evPost, evPostW, evR, evU, seval]
      exact ⟨k + 1, by omega, by omega, by rw [hs2]; exact ⟨rfl, rfl⟩, by rw [hs2]⟩
    | none =>
      have hge := List.getElem?_eq_none_iff.1 hce
      have hltk : ¬ ((k : Int) < es.length) := by omega
      rw [List.take_of_length_le hge]
      have hb0 : ((ttErrs p l T i ++ es.map fun f => (⟨f.err, txFl ++ decB i ++ [32] ++ f.at_⟩ : Ft)).map ftR).length < 100000000 := by simp only [List.length_map, List.length_append]; omega
      rw [← List.append_assoc] at hst
      generalize (ttErrs p l T i ++ es.map fun f => (⟨f.err, txFl ++ decB i ++ [32] ++ f.at_⟩ : Ft)) = gs at hst hb0
      simp (disch := first | omega | (simp only [lenT]; omega)) only [dF hltk, evSt, ↓evPre, ↓evPreW, evPost, evPostW, evR, evU, seval]
      refine loopA (ι := Nat) (fun k => [(2, .cptr [.sl 5 (p.1.map aptR), .sl 3 (p.2.map dstR)]), (1, .sl 6 (l.map flR)), (5, accV S.length (gs.map ftR)), (6, .int .i64 (i : Nat)), (7, .str (txFl ++ decB i)), (10, .bool ((l.take k).any fun y => meetsF y x)), (11, .int .i64 (k : Nat))])
        (fun k => S ++ accT 78 2 (gs.map ftR)) (fun k => k ≤ i) (fun k => i - k) 0 (Nat.zero_le _) ?_ rfl ?_
      · simp only [List.any_nil, ↓evPre, ↓evPreW, evPost, evPostW, evR, evU, seval]
        try rfl
      intro m hm
      by_cases hmi : m < i
      · have hltm : (m : Int) < i := by omega
        have hm1 : (m : Int) + 1 = ((m + 1 : Nat) : Int) := by omega
        obtain ⟨y, hy⟩ : ∃ y, l[m]? = some y := ⟨_, List.getElem?_eq_getElem (by omega)⟩
        have hnx : ((l.take (m + 1)).any fun y => meetsF y x) = (((l.take m).any fun y => meetsF y x) || meetsF y x) := by rw [take_at hy, List.any_append]; simp
        have hmt := fun S => rmeets_A y x S
        simp only [flR] at hmt
        cases ha : (l.take m).any fun y => meetsF y x with
        | true =>
          rw [ha, Bool.true_or] at hnx
          simp (disch := first | omega | (simp only [lenT]; omega)) only [dT hltm, hy, hc, wrap_i64, hm1, flR, evSt, ↓evPre, ↓evPreW, evPost, evPostW, evR, evU, seval]
          exact ⟨m + 1, by omega, by omega, by rw [hnx]; first | done | exact ⟨rfl, rfl⟩, rfl⟩
        | false =>
          rw [ha, Bool.false_or] at hnx
          simp (disch := first | omega | (simp only [lenT]; omega)) only [dT hltm, hy, hc, flR, evSt, ↓evPre, ↓evPreW, evPost, evPostW, evR, evU, seval]
          refine (hmt _).then ?_
          simp (disch := first | omega | (simp only [lenT]; omega)) only [wrap_i64, hm1, evSt, ↓evPre, ↓evPreW, evPost, evPostW, evR, evU, seval]
          exact ⟨m + 1, by omega, by omega, by rw [hnx]; first | done | exact ⟨rfl, rfl⟩, rfl⟩
      · have hltm : ¬ (m : Int) < i := by omega
        have hme : m = i := by omega
        subst hme
        cases ha : (l.take m).any fun y => meetsF y x with
        | true =>
          rw [ha, if_pos rfl] at hst
          simp (disch := first | omega | (simp only [lenT]; omega)) only [dF hltm, app_accL rfl hb0, wrap_i64, hi1, evSt, ↓evPre, ↓evPreW, evPost, evPostW, evR, evU, seval]
          exact ⟨m + 1, by omega, by omega, by rw [hst, List.map_append]; exact ⟨rfl, rfl⟩, by rw [hst, List.map_append]; rfl⟩
        | false =>
          rw [ha] at hst
          simp only [Bool.false_eq_true, if_false, List.append_nil] at hst
          simp (disch := first | omega | (simp only [lenT]; omega)) only [dF hltm, wrap_i64, hi1, evSt, ↓evPre, ↓evPreW, evPost, evPostW, evR, evU, seval]
          exact ⟨m + 1, by omega, by omega, by rw [hst]; exact ⟨rfl, rfl⟩, by rw [hst]⟩
/-- The reference's texts of days. -/
def rT (d : Int) : Txt := prtF d.toNat
theorem rtt0_A (p : Pls) (hp : POk p) (l : List Fl) (hl : l.length ≤ 50) (hx : ∀ x ∈ l, x.legs.length ≤ 1100000) (S : Store) :
    CallA Tryz.prog 15 [plV p, .sl 6 (l.map flR)] S fun r S' => r = .sl 2 ((ttF p l rT).map ftR) ∧ S' = S := by
  refine rtt_A p hp l hl hx rT (fun x _ d hd _ S => ?_) (fun d => by rw [rT, prtF_len]; omega) S
  have h := days_has hd
  unfold hasF at h
  rw [Bool.and_eq_true, decide_eq_true_eq] at h
  obtain ⟨⟨h1, h2, h3⟩, _⟩ := h
  have hq := pd_ok h1
  have := rprint_A d.toNat (by omega) S
  rwa [show ((d.toNat : Nat) : Int) = d by omega] at this
end Go.Proofs.YtiihkfjbllpiaaaGreatDoor
