/- The differences of two lists. -/
import Derived.Test.YtlnpfnoemhjheaaGreatDoorMRecT
namespace Go.Proofs.YtlnpfnoemhjheaaGreatDoor
open Go Go.AL
set_option linter.unusedSectionVars false
variable [Go.AL.Mode] [Go.AL.LooseM]
set_option linter.unusedSimpArgs false
set_option linter.unusedVariables false
def diffs (b : List St) (x : St) : Bool := match (firsts b).find? (sameS x) with
  | some y => decide (y ≠ x)
  | none => false
theorem firsts_len (l : List St) : (firsts l).length ≤ l.length := by
  have key : ∀ (l acc : List St), (l.foldl addF acc).length ≤ acc.length + l.length := by
    intro l
    induction l with
    | nil => intro acc; simp
    | cons x l ih =>
      intro acc
      have h1 := ih (addF acc x)
      have h2 : (addF acc x).length ≤ acc.length + 1 := by unfold addF; split <;> simp
      simp only [List.foldl_cons, List.length_cons]
      omega
  simpa [firsts] using key l []
theorem find_same {l : List St} {x y : St} (h : l.find? (sameS x) = some y) : sameS x y = true := List.find?_some h
theorem firsts_apart (l : List St) : Apart (firsts l) := by
  have key : ∀ (l acc : List St), Apart acc → Apart (l.foldl addF acc) := by
    intro l
    induction l with
    | nil => exact fun acc h => h
    | cons x l ih =>
      intro acc h
      refine ih _ ?_
      unfold addF
      split
      · exact h
      · rename_i hs
        unfold Apart
        rw [List.pairwise_append]
        refine ⟨h, List.pairwise_singleton .., fun a ha b hb => ?_⟩
        simp only [List.mem_singleton] at hb
        subst hb
        cases hab : sameS a b
        · rfl
        · exfalso
          apply hs
          rw [List.find?_isSome]
          exact ⟨a, ha, by rw [same_sym]; exact hab⟩
  exact key l [] .nil
theorem Apart.filter {l : List St} (h : Apart l) (p : St → Bool) : Apart (l.filter p) := h.sublist List.filter_sublist
def dfStore (S : Store) (a b rest out : List St) (v : Nat) : Store :=
  S ++ [mpS (firsts b), ⟨0, some (.mp ⟨.st [.int .i64, .int .i64], (firsts a).map ent, .held (S.length + 2)⟩)⟩, ⟨0, some (.mp ⟨.st [.int .i64, .int .i64], rest.map ent, .iter (some (S.length + 1, 0)) none⟩)⟩, ⟨v, some (.arr 41 4 (out.map stR))⟩]
def dfEnv (S : Store) (out : List St) (v : Nat) : Env := [(5, .mapv S.length 0), (15, .mapv (S.length + 2) 0), (6, .msl (S.length + 3) v 0 out.length)]
theorem df_back {S : Store} (hn : Neat S) {a b rest out : List St} {v : Nat} {c : Option (V × V)} {E : Env} {T : Store} {R : List (List V)} (hE : sub (dfEnv S out v) E) (hR : R = out.map stR) :
    Back (dfEnv S out v) (dfStore S a b rest out v) E (S ++ mpS (firsts b) :: ⟨0, some (.mp ⟨.st [.int .i64, .int .i64], (firsts a).map ent, .held (S.length + 2)⟩)⟩ :: ⟨0, some (.mp ⟨.st [.int .i64, .int .i64], rest.map ent, .iter (some (S.length + 1, 0)) c⟩)⟩ :: ⟨v, some (.arr 41 4 R)⟩ :: T) := by
  subst hR
  exact back_under (hn.fgtL (L1 := [mpS (firsts b), ⟨0, some (.mp ⟨.st [.int .i64, .int .i64], (firsts a).map ent, .held (S.length + 2)⟩)⟩, ⟨0, some (.mp ⟨.st [.int .i64, .int .i64], rest.map ent, .iter (some (S.length + 1, 0)) none⟩)⟩, ⟨v, some (.arr 41 4 (out.map stR))⟩])
    (L := mpS (firsts b) :: ⟨0, some (.mp ⟨.st [.int .i64, .int .i64], (firsts a).map ent, .held (S.length + 2)⟩)⟩ :: ⟨0, some (.mp ⟨.st [.int .i64, .int .i64], rest.map ent, .iter (some (S.length + 1, 0)) c⟩)⟩ :: ⟨v, some (.arr 41 4 (out.map stR))⟩ :: T) ⟨rfl, objF_mpS rfl, rfl, objF_mpS rfl, rfl, objF_it rfl (mpS_keys _) (fun a => rfl), rfl, ⟨_, rfl, .imm (stR_imm _)⟩, fgtL_nil⟩) hE (by simp [dfEnv, dfStore, V.under])
theorem differ_A (a b : List St) (S : Store) (ha : a.length ≤ 1000) (hb : b.length ≤ 1000) :
    CallA Tryz.prog 21 [stSl a, stSl b] S fun r S' => (∃ d, Asc d ∧ d.Perm ((firsts a).filter (diffs b)) ∧ r = stSl d) ∧ S' = S := by
  refine CallA.withNeat Tryz.func21 c28 fun hn => ?_
  refine CallA.fin Tryz.func21 c28 (Nat.le_of_ble_eq_true rfl) fun σ hσ => ?_
  simp (disch := first | omega | (simp only [lenT]; omega)) only [a28, evSt, ↓evPre, ↓evPreW, evPost, evPostW, evR, evU, seval]
  refine (of_A b S (by omega)).then2 ?_
  simp (disch := first | omega | (simp only [lenT]; omega)) only [evSt, ↓evPre, ↓evPreW, evPost, evPostW, evR, evU, seval]
  refine (of_A a _ (by omega)).then2 ?_
  simp (disch := first | omega | (simp only [lenT]; omega)) only [mpS, evSt, ↓evPre, ↓evPreW, evPost, evPostW, evR, evU, seval]
  refine LoopA.ghost 6 0 41 4 (by simp only [↓evPre, ↓evPreW, evPost, evPostW, evR, evU, seval]) ?_
  refine loopF (ι := List St × List St × Nat) (fun p => dfEnv S (p.2.1.filter (diffs b)) p.2.2) (fun p => dfStore S a b p.1 (p.2.1.filter (diffs b)) p.2.2) (fun p => (p.2.1 ++ p.1).Perm (firsts a)) (fun p => p.1.length) (fun p _ => by rw [hσ]; simp [dfStore])
    (firsts a, [], 0) (.refl _) (.inl ⟨?_, ?_⟩) ?_
  · simp (disch := first | omega | (simp only [lenT]; omega)) only [dfEnv, List.filter_nil, evSt, ↓evPre, ↓evPreW, evPost, evPostW, evR, evU, seval]
  · simp (disch := first | omega | (simp only [lenT]; omega)) only [dfStore, mpS, List.filter_nil, evSt, ↓evPre, ↓evPreW, evPost, evPostW, evR, evU, seval]
  rintro ⟨rest, done, v⟩ hp
  simp only at hp ⊢
  have hlen : (done.filter (diffs b)).length ≤ 1000 := by
    have h1 := List.length_filter_le (diffs b) done
    have h2 := hp.length_eq
    have h3 := firsts_len a
    simp only [List.length_append] at h2
    omega
  generalize ho : done.filter (diffs b) = out at hlen ⊢
  simp (disch := first | omega | (simp only [lenT]; omega)) only [dfEnv, dfStore, mpS, evSt, ↓evPre, ↓evPreW, evPost, evPostW, evR, evU, seval]
  refine next_ents (fun h0 => ?_) (fun x rest' hx => ?_)
  · subst h0
    simp (disch := first | omega | (simp only [lenT]; omega)) only [evSt, ↓evPre, ↓evPreW, evPost, evPostW, evR, evU, seval]
    refine (sorted_A out _ _ _ (by omega) (by simp (disch := first | omega | (simp only [lenT]; omega)) only [evSt, ↓evPre, ↓evPreW, evPost, evPostW, evR, evU, seval])).mono ?_
    rintro r S' ⟨rfl, l', h1, h2, rfl⟩
    simp (disch := first | omega | (simp only [lenT]; omega)) only [evSt, ↓evPre, ↓evPreW, evPost, evPostW, evR, evU, seval]
    have hl' := h1.length_eq
    have hperm : l'.Perm ((firsts a).filter (diffs b)) := by
      rw [List.append_nil] at hp
      rw [← ho] at h1
      exact h1.trans (hp.filter _)
    refine ⟨stSl l', S, hn.fgt _, ?_, Nat.le_refl _, ⟨l', ?_, hperm, rfl⟩, rfl⟩
    · rw [← hl']
      exact .sl (t := 41) (by omega) (by simp (disch := first | omega | (simp only [lenT]; omega)) only [evSt, ↓evPre, ↓evPreW, evPost, evPostW, evR, evU, seval]) (by simp) (stR_imm _)
    · exact Srt.asc h2 (((firsts_apart a).filter _).perm hperm.symm)
  · have hf := find_ents x (firsts b)
    unfold keyV at hf
    have hx2 : ((done ++ [x]) ++ rest').Perm (firsts a) := by
      rw [List.append_assoc]
      exact (List.Perm.append_left done hx.symm).trans hp
    have hlt : rest'.length < rest.length := by have := hx.length_eq; simp at this; omega
    have hfl : ∀ {d : Bool}, diffs b x = d → (done ++ [x]).filter (diffs b) = out ++ if d then [x] else [] := by
      rintro d rfl
      rw [List.filter_append, ho]
      congr 1
      cases hd : diffs b x <;> simp [hd]
    cases hg : (firsts b).find? (sameS x) with
    | none =>
      rw [hg] at hf
      have hfl' := hfl (show diffs b x = false by rw [diffs, hg])
      simp (disch := first | omega | (simp only [lenT]; omega)) only [ent, keyV, stV, stR, hf, Option.map_none, Option.getD_none, Option.isSome_none, evSt, ↓evPre, ↓evPreW, evPost, evPostW, evR, evU, seval]
      refine ⟨(rest', done ++ [x], v), hx2, hlt, ?_⟩
      simp only [hfl', Bool.false_eq_true, if_false, List.append_nil]
      exact df_back hn ⟨rfl, rfl, rfl, trivial⟩ rfl
    | some y =>
      rw [hg] at hf
      by_cases hxy : y = x
      · have hfl' := hfl (show diffs b x = false by rw [diffs, hg]; simp [hxy])
        simp (disch := first | omega | (simp only [lenT]; omega)) only [ent, keyV, stV, stR, hf, eqd_st, dT hxy, Option.getD_some, Option.isSome_some, evSt, ↓evPre, ↓evPreW, evPost, evPostW, evR, evU, seval]
        refine ⟨(rest', done ++ [x], v), hx2, hlt, ?_⟩
        simp only [hfl', Bool.false_eq_true, if_false, List.append_nil]
        exact df_back hn ⟨rfl, rfl, rfl, trivial⟩ rfl
      · have hfl' := hfl (show diffs b x = true by rw [diffs, hg]; simp [hxy])
        simp (disch := first | omega | (simp only [lenT]; omega)) only [ent, keyV, stV, stR, hf, eqd_st, dF hxy, Option.getD_some, Option.isSome_some, evSt, ↓evPre, ↓evPreW, evPost, evPostW, evR, evU, seval]
        refine ⟨by unfold roomA; omega, (rest', done ++ [x], v + 1), hx2, hlt, ?_⟩
        simp only [hfl', if_true]
        exact df_back hn ⟨rfl, rfl, by simp (disch := first | omega | (simp only [lenT]; omega)) only [List.length_append, ↓evPre, ↓evPreW, evPost, evPostW, evR, evU, seval], trivial⟩ (by simp [stR])
end Go.Proofs.YtlnpfnoemhjheaaGreatDoor
/- Merging two lists. -/
namespace Go.Proofs.YtlnpfnoemhjheaaGreatDoor
open Go Go.AL
set_option linter.unusedSectionVars false
variable [Go.AL.Mode] [Go.AL.LooseM]
set_option linter.unusedSimpArgs false
set_option linter.unusedVariables false
theorem find_putS (z w : St) : ∀ (m : List St), (putS z m).find? (sameS w) = if sameS w z then some z else m.find? (sameS w)
  | [] => by simp only [putS, List.find?_cons, List.find?_nil]; cases sameS w z <;> simp
  | y :: m => by
    rw [putS]
    cases hzy : sameS z y with
    | true =>
      rw [if_pos rfl, List.find?_cons, List.find?_cons]
      cases hw : sameS w z
      · have : sameS w y = false := by
          cases h : sameS w y
          · rfl
          · have := same_tr h (by rw [same_sym]; exact hzy)
            rw [hw] at this; cases this
        rw [this]
        simp
      · simp
    | false =>
      rw [if_neg (by simp), List.find?_cons, List.find?_cons, find_putS z w m]
      cases hw : sameS w z
      · simp
      · have : sameS w y = false := by
          cases h : sameS w y
          · rfl
          · have := same_tr (by rw [same_sym]; exact hw) h
            rw [hzy] at this; cases this
        rw [this]
theorem putS_apart {z : St} : ∀ {m : List St}, Apart m → Apart (putS z m)
  | [], _ => List.pairwise_singleton ..
  | y :: m, h => by
    unfold Apart at h ⊢
    rw [List.pairwise_cons] at h
    rw [putS]
    cases hzy : sameS z y with
    | true =>
      rw [if_pos rfl, List.pairwise_cons]
      exact ⟨fun a ha => by rw [same_same a hzy]; exact h.1 a ha, h.2⟩
    | false =>
      rw [if_neg (by simp), List.pairwise_cons]
      refine ⟨fun a ha => ?_, putS_apart h.2⟩
      have mem : ∀ {m : List St}, a ∈ putS z m → a = z ∨ a ∈ m := by
        intro m
        induction m with
        | nil => intro ha; simp only [putS, List.mem_singleton] at ha; exact .inl ha
        | cons q m ih =>
          intro ha
          rw [putS] at ha
          split at ha
          · rcases List.mem_cons.1 ha with ha | ha
            · exact .inl ha
            · exact .inr (List.mem_cons_of_mem _ ha)
          · rcases List.mem_cons.1 ha with ha | ha
            · exact .inr (by rw [ha]; exact List.mem_cons_self ..)
            · exact (ih ha).imp id (List.mem_cons_of_mem _)
      rcases mem ha with rfl | ha
      · rw [same_sym]; exact hzy
      · exact h.1 a ha
theorem putS_len {z : St} : ∀ (m : List St), (putS z m).length ≤ m.length + 1
  | [] => by simp [putS]
  | q :: m => by
    rw [putS]
    have := putS_len (z := z) m
    split <;> simp only [List.length_cons] <;> omega
theorem Apart.mem_find {l : List St} {x : St} (h : Apart l) (hx : x ∈ l) : l.find? (sameS x) = some x := by
  induction l with
  | nil => cases hx
  | cons y l ih =>
    unfold Apart at h
    rw [List.pairwise_cons] at h
    rw [List.find?_cons]
    rcases List.mem_cons.1 hx with rfl | hx
    · rw [same_self]
    · have := h.1 x hx
      rw [same_sym] at this
      rw [this]
      exact ih h.2 hx
theorem Apart.nodup {l : List St} (h : Apart l) : l.Nodup := h.imp fun {a b} hab e => by subst e; rw [same_self] at hab; cases hab
theorem Apart.permF {l m : List St} (h : Apart l) (k : Apart m) (hf : ∀ w, l.find? (sameS w) = m.find? (sameS w)) : l.Perm m := by
  refine (List.perm_ext_iff_of_nodup h.nodup k.nodup).2 fun x => ⟨fun hx => ?_, fun hx => ?_⟩
  · have := h.mem_find hx
    rw [hf] at this
    exact List.mem_of_find?_eq_some this
  · have := k.mem_find hx
    rw [← hf] at this
    exact List.mem_of_find?_eq_some this
theorem Apart.find_perm {l m : List St} (h : Apart l) (hp : l.Perm m) (w : St) : l.find? (sameS w) = m.find? (sameS w) := by
  have k := h.perm hp
  cases hl : l.find? (sameS w) with
  | some x =>
    have hx := hp.subset (List.mem_of_find?_eq_some hl)
    have hs := find_same hl
    have := k.mem_find hx
    rw [← this]
    congr 1
    funext z
    exact (same_same z hs).symm
  | none =>
    symm
    rw [List.find?_eq_none] at hl ⊢
    exact fun x hx => hl x (hp.symm.subset hx)
theorem Asc.uniqF {l m : List St} (h : Asc l) (k : Asc m) (hf : ∀ w, l.find? (sameS w) = m.find? (sameS w)) : l = m := h.uniq k (h.apart.permF k.apart hf)
theorem firsts_find (l : List St) (w : St) : (firsts l).find? (sameS w) = l.find? (sameS w) := by
  have key : ∀ (l acc : List St), (l.foldl addF acc).find? (sameS w) = (acc ++ l).find? (sameS w) := by
    intro l
    induction l with
    | nil => intro acc; simp
    | cons x l ih =>
      intro acc
      rw [List.foldl_cons, ih, List.find?_append, List.find?_append, List.find?_cons]
      unfold addF
      split
      · rename_i hs
        cases hw : sameS w x
        · rfl
        · obtain ⟨y, hy⟩ := Option.isSome_iff_exists.1 hs
          have hy2 : acc.find? (sameS w) = some y := by
            rw [← hy]; congr 1; funext z; exact same_same z hw
          rw [hy2]
          rfl
      · rw [List.find?_append, List.find?_cons, List.find?_nil]
        cases acc.find? (sameS w) <;> cases sameS w x <;> simp
  simpa [firsts] using key l []
def stp (m : List St) (y : St) : List St := match m.find? (sameS y) with
  | some x => putS (mrgS x y) m
  | none => putS y m
def joinF : Option St → Option St → Option St
  | some x, some y => some (mrgS x y)
  | some x, none => some x
  | none, r => r
def mF (a b : List St) (w : St) : Option St := joinF (a.find? (sameS w)) (b.find? (sameS w))
theorem mrg_same (x y : St) (h : sameS y x = true) : sameS y (mrgS x y) = true := by
  simp only [sameS, decide_eq_true_eq] at *
  unfold mrgS
  repeat' split
  all_goals first | exact h | exact ⟨rfl, rfl⟩ | trivial
theorem mrg_key {x y : St} (h : sameS y x = true) : keyV (mrgS x y) = keyV y := by
  have := mrg_same x y h
  simp only [sameS, decide_eq_true_eq] at this
  unfold keyV
  rw [this.1, this.2]
theorem stp_find (m : List St) (y w : St) : (stp m y).find? (sameS w) = if sameS w y then some (match m.find? (sameS w) with
    | some x => mrgS x y
    | none => y) else m.find? (sameS w) := by
  unfold stp
  cases hm : m.find? (sameS y) with
  | none =>
    simp only
    rw [find_putS]
    cases hw : sameS w y
    · simp
    · have : m.find? (sameS w) = none := by rw [← hm]; congr 1; funext z; exact same_same z hw
      simp [this]
  | some x =>
    have hs := find_same hm
    simp only
    rw [find_putS]
    have hk := mrg_same x y hs
    cases hw : sameS w y
    · have : sameS w (mrgS x y) = false := by
        cases h : sameS w (mrgS x y)
        · rfl
        · have := same_tr h (by rw [same_sym]; exact hk)
          rw [hw] at this; cases this
      simp [this]
    · have h1 : sameS w (mrgS x y) = true := same_tr hw hk
      have h2 : m.find? (sameS w) = some x := by rw [← hm]; congr 1; funext z; exact same_same z hw
      simp [h1, h2]
theorem stp_apart {m : List St} {y : St} (h : Apart m) : Apart (stp m y) := by
  unfold stp; split <;> exact putS_apart h
theorem stps_apart : ∀ {l m : List St}, Apart m → Apart (l.foldl stp m)
  | [], _, h => h
  | y :: l, m, h => stps_apart (l := l) (stp_apart h)
theorem stps_find : ∀ {l m : List St} (_ : Apart l) (w : St), (l.foldl stp m).find? (sameS w) = joinF (m.find? (sameS w)) (l.find? (sameS w))
  | [], m, _, w => by simp only [List.foldl_nil, List.find?_nil]; cases m.find? (sameS w) <;> rfl
  | y :: l, m, h, w => by
    unfold Apart at h
    rw [List.pairwise_cons] at h
    rw [List.foldl_cons, stps_find h.2 w, stp_find, List.find?_cons]
    cases hw : sameS w y
    · simp
    · have : l.find? (sameS w) = none := by
        rw [List.find?_eq_none]
        intro z hz
        rw [same_same z hw, h.1 z hz]
        simp
      rw [this]
      cases m.find? (sameS w) <;> simp [joinF]
def vOk (B : Int) (l : List St) : Prop := ∀ x ∈ l, -9223372036854775808 ≤ x.v ∧ x.v ≤ B
theorem stp_len (m : List St) (y : St) : (stp m y).length ≤ m.length + 1 := by
  unfold stp; split <;> exact putS_len m
theorem firsts_mem {l : List St} {x : St} (h : x ∈ firsts l) : x ∈ l := by
  have := (firsts_apart l).mem_find h
  rw [firsts_find] at this
  exact List.mem_of_find?_eq_some this
theorem vOk.firsts {l : List St} {B : Int} (h : vOk B l) : vOk B (firsts l) := fun x hx => h x (firsts_mem hx)
end Go.Proofs.YtlnpfnoemhjheaaGreatDoor
