/- The reader: the walk through a line, done. -/
import Derived.Test.YtpblahljlbakdaaEdi11
namespace Go.Proofs.Ytpblahljlbakdaa
open Go Go.AL
set_option linter.unusedSimpArgs false

theorem len_two {S : Store} {a b : AL.Obj} : (S ++ [a, b]).length = S.length + 2 := by simp

theorem neatIn_of {S : Store} {a b : AL.Obj} (h : Neat (S ++ [a, b])) : NeatIn S := fun id ver e sz rows hs r hr => by
  have hlt := (List.getElem?_eq_some_iff.1 hs).1
  have := h id ver e sz rows (by rw [List.getElem?_append_left hlt]; exact hs) r hr
  rw [len_two] at this
  exact this

def curLen : Option (List Txt × Txt) → Nat
  | none => 0
  | some (a, b) => a.length + b.length

theorem nextF_mark {c : UInt8} {r : Option UInt8} {b : UInt8} {n : Nat} (h : nextF c r = (some (true, b), n)) : n = 1 ∧ (b.toNat = 43 ∨ b.toNat = 58 ∨ b.toNat = 39) := by
  unfold nextF at h
  split at h
  · split at h
    · cases h
    · split at h <;> cases h
  · rename_i h63
    split at h
    · cases h
    · split at h
      · rename_i hs
        cases h
        simp only [specC, Bool.or_eq_true, decide_eq_true_eq] at hs
        exact ⟨rfl, by omega⟩
      · cases h
theorem nextF_letter {c : UInt8} {r : Option UInt8} {b : UInt8} {n : Nat} (h : nextF c r = (some (false, b), n)) : n = 1 ∨ (n = 2 ∧ ∃ d, r = some d) := by
  unfold nextF at h
  split at h
  · split at h
    · cases h
    · split at h
      · cases h; exact .inr ⟨rfl, _, rfl⟩
      · cases h
  · split at h
    · cases h
    · split at h
      · cases h
      · cases h; exact .inl rfl

set_option maxHeartbeats 1000000 in
set_option maxRecDepth 20000 in
theorem line_A (s : Txt) (k : Nat) (S : Store) (v : Nat) (ls : List Ln) (tag : Txt) (hs : s.length ≤ 65536) (hk : k ≤ s.length) (hr : ls.length ≤ 65536) :
    CallA Try.prog 38 [.ptr S.length 0 0 0] (S ++ [⟨0, some (.arr 63 3 [[.str s, .int .i64 k, .msl (S.length + 1) v 0 (ls.length + 1)]])⟩, ⟨v, some (.arr 35 2 (ls.map lnR ++ [[.str tag, .nilSl]]))⟩]) (LinePost s k S v ls tag) := by
  refine CallA.withNeat Try.func38 c38 fun hn => ?_
  refine CallA.fin Try.func38 c38 (Nat.le_of_ble_eq_true rfl) fun σ hσ => ?_
  have hn := neatIn_of hn
  simp only [len_two]
  change wpA Try.prog a38.N σ a38.code (retK a38.res (LineEnd s k S v ls tag)) _ _
  have hrow : ∀ (x : List V), (ls.map lnR ++ [x])[ls.length]? = some x := fun x => by rw [List.getElem?_append_right (by simp)]; simp
  have hset : ∀ (x y : List V), (ls.map lnR ++ [x]).set ls.length y = ls.map lnR ++ [y] := fun x y => by rw [List.set_append_right _ _ (by simp)]; simp
  have e0 : (((ls.length + 1 : Nat) : Int) - 1).toNat = ls.length := by omega
  simp (disch := first | omega | (simp only [List.length_cons, List.length_nil, List.length_map, List.length_drop]; omega)) only [a38, ob_app, ob_app0, ob_cons, ob_head, se_app, se_app0, se_cons, se_head, List.length_append, List.length_cons, List.length_nil, List.length_map, wrap_i64, hrow, e0, ↓evPre, ↓evPreW, evPost, evPostW, ← List.map_take, ← List.map_drop, ↓reduceIte, reduceCtorEq, Nat.reduceEqDiff, forall_const, implies_true, Nat.reduceAdd, Nat.reduceSub, Nat.reduceMul, Nat.reduceLT, Nat.reduceLeDiff, Int.reduceToNat, Int.reduceAdd, Int.reduceSub, Int.reduceNeg, Int.reduceMul, Int.reduceLT, Int.reduceLE, Int.reduceEq]
  refine loopA (ι := Nat × Store × V × V × List (List Txt) × Option (List Txt × Txt)) (fun i => [(0, .ptr S.length 0 0 0), (3, .ptr (S.length + 1) v ls.length 0), (4, i.2.2.2.1)])
    (fun i => S ++ ⟨0, some (.arr 63 3 [[.str s, .int .i64 (k + i.1 : Nat), .msl (S.length + 1) v 0 (ls.length + 1)]])⟩ :: ⟨v, some (.arr 35 2 (ls.map lnR ++ [[.str tag, i.2.2.1]]))⟩ :: i.2.1)
    (fun i => k + i.1 ≤ s.length ∧ i.2.2.2.2.1.length + curLen i.2.2.2.2.2 ≤ i.1 ∧ Sta S i.2.1 i.2.2.2.2.1 i.2.2.2.2.2 i.2.2.1 i.2.2.2.1 ∧ shift i.1 (mach i.2.2.2.2.1 i.2.2.2.2.2 (s.drop (k + i.1))) = mach [] none (s.drop k))
    (fun i => s.length - (k + i.1)) (0, [], .nilSl, .nilSl, [], none) ⟨by simp only; omega, by simp [curLen], ⟨rfl, rfl, rfl⟩, by simp [shift]⟩ ?_ rfl ?_
  · simp only [↓evPre, ↓evPreW, evPost, evPostW, ← List.map_take, ← List.map_drop, ↓reduceIte, reduceCtorEq, Nat.reduceEqDiff, forall_const, implies_true, Nat.reduceAdd, Nat.reduceSub, Nat.reduceMul, Nat.reduceLT, Nat.reduceLeDiff, Int.reduceToNat, Int.reduceAdd, Int.reduceSub, Int.reduceNeg, Int.reduceMul, Int.reduceLT, Int.reduceLE, Int.reduceEq]
  · rintro ⟨d, T, e, tx, els, cur⟩ ⟨hkd, hsz, hst, hfin⟩
    simp only at hkd hsz hst hfin ⊢
    cases hc : s[k + d]? with
    | none =>
      have hkl : ¬ ((k + d : Nat) : Int) < (s.length : Int) := by have := List.getElem?_eq_none_iff.1 hc; omega
      rw [show s.drop (k + d) = [] from List.drop_eq_nil_of_le (by have := List.getElem?_eq_none_iff.1 hc; omega), mach] at hfin
      simp (disch := first | omega | (simp only [List.length_cons, List.length_nil, List.length_map, List.length_drop]; omega)) only [hkl, wrap_i64, ob_app, ob_app0, ob_cons, ob_head, hrow, ↓evPre, ↓evPreW, evPost, evPostW, ← List.map_take, ← List.map_drop, ↓reduceIte, reduceCtorEq, Nat.reduceEqDiff, forall_const, implies_true, Nat.reduceAdd, Nat.reduceSub, Nat.reduceMul, Nat.reduceLT, Nat.reduceLeDiff, Int.reduceToNat, Int.reduceAdd, Int.reduceSub, Int.reduceNeg, Int.reduceMul, Int.reduceLT, Int.reduceLE, Int.reduceEq]
      refine end_false hn ?_
      rw [← hfin]
      simp [shift]
    | some c =>
      have hlt : ((k + d : Nat) : Int) < (s.length : Int) := by have := (List.getElem?_eq_some_iff.1 hc).1; omega
      rw [drop_cons hc, mach_step, ← drop_cons hc, drop_head] at hfin
      have hnx := next_A s (k + d) c (S ++ ⟨0, some (.arr 63 3 [[.str s, .int .i64 (k + d : Nat), .msl (S.length + 1) v 0 (ls.length + 1)]])⟩ :: ⟨v, some (.arr 35 2 (ls.map lnR ++ [[.str tag, e]]))⟩ :: T) (by omega) hc
      simp (disch := first | omega | (simp only [List.length_cons, List.length_nil, List.length_map, List.length_drop]; omega)) only [hlt, hc, wrap_i64, ob_app, ob_app0, ob_cons, ob_head, hrow, ↓evPre, ↓evPreW, evPost, evPostW, ← List.map_take, ← List.map_drop, ↓reduceIte, reduceCtorEq, Nat.reduceEqDiff, forall_const, implies_true, Nat.reduceAdd, Nat.reduceSub, Nat.reduceMul, Nat.reduceLT, Nat.reduceLeDiff, Int.reduceToNat, Int.reduceAdd, Int.reduceSub, Int.reduceNeg, Int.reduceMul, Int.reduceLT, Int.reduceLE, Int.reduceEq]
      refine hnx.then ?_
      generalize hp : nextF c s[k + d + 1]? = p at hfin ⊢
      obtain ⟨pt, n⟩ := p
      have hn2 : n ≤ 2 := by
        have : (nextF c s[k + d + 1]?).2 ≤ 2 := by unfold nextF; split <;> (try split) <;> (try split) <;> simp
        rw [hp] at this
        exact this
      simp only [stepF] at hfin
      simp only at hnx ⊢
      cases cur with
      | none =>
        obtain ⟨rfl, rfl, rfl⟩ := hst
        match pt, hfin with
        | none, hfin =>
          simp (disch := first | omega | (simp only [List.length_cons, List.length_nil, List.length_map, List.length_drop]; omega)) only [partV, wrap_i64, ob_app, ob_app0, ob_cons, ob_head, hrow, ↓evPre, ↓evPreW, evPost, evPostW, ← List.map_take, ← List.map_drop, ↓reduceIte, reduceCtorEq, Nat.reduceEqDiff, forall_const, implies_true, Nat.reduceAdd, Nat.reduceSub, Nat.reduceMul, Nat.reduceLT, Nat.reduceLeDiff, Int.reduceToNat, Int.reduceAdd, Int.reduceSub, Int.reduceNeg, Int.reduceMul, Int.reduceLT, Int.reduceLE, Int.reduceEq]
          exact end_false hn (by rw [← hfin]; simp [shift])
        | some (false, b), hfin =>
          simp (disch := first | omega | (simp only [List.length_cons, List.length_nil, List.length_map, List.length_drop]; omega)) only [partV, wrap_i64, ob_app, ob_app0, ob_cons, ob_head, hrow, ↓evPre, ↓evPreW, evPost, evPostW, ← List.map_take, ← List.map_drop, ↓reduceIte, reduceCtorEq, Nat.reduceEqDiff, forall_const, implies_true, Nat.reduceAdd, Nat.reduceSub, Nat.reduceMul, Nat.reduceLT, Nat.reduceLeDiff, Int.reduceToNat, Int.reduceAdd, Int.reduceSub, Int.reduceNeg, Int.reduceMul, Int.reduceLT, Int.reduceLE, Int.reduceEq]
          exact end_false hn (by rw [← hfin]; simp [shift])
        | some (true, b), hfin =>
          obtain ⟨rfl, hb⟩ := nextF_mark hp
          have hlen1 : ((k + d : Nat) : Int) + ((1 : Nat) : Int) = ((k + (d + 1) : Nat) : Int) := by omega
          rw [List.drop_drop] at hfin
          rcases hb with hb | hb | hb
          · have hbi : (b.toNat : Int) = 43 := by omega
            simp only [markF, hb] at hfin
            simp (disch := first | omega | (simp only [List.length_cons, List.length_nil, List.length_map, List.length_drop]; omega)) only [partV, hbi, wrap_i64, ob_app, ob_app0, ob_cons, ob_head, hrow, hset, se_app, se_app0, se_cons, se_head, ap_app, le_app, List.cons_append, List.nil_append, List.length_cons, List.length_nil, ↓evPre, ↓evPreW, evPost, evPostW, ← List.map_take, ← List.map_drop, ↓reduceIte, reduceCtorEq, Nat.reduceEqDiff, forall_const, implies_true, Nat.reduceAdd, Nat.reduceSub, Nat.reduceMul, Nat.reduceLT, Nat.reduceLeDiff, Int.reduceToNat, Int.reduceAdd, Int.reduceSub, Int.reduceNeg, Int.reduceMul, Int.reduceLT, Int.reduceLE, Int.reduceEq]
            refine ⟨by unfold roomA; omega, (d + 1, T ++ [⟨0, some (.arr 40 1 [[.nilSl]])⟩], .msl (S.length + (T.length + 2)) 0 0 1, .nilSl, [], some ([], [])), ⟨by simp only; omega, by simp [curLen], ?_, ?_⟩, by simp only; omega, rfl, rfl⟩
            · exact ⟨T.length, 0, [], .nilSl, 0, rfl, obj_push, ⟨rfl, fun i v x hv => by simp at hv⟩, Nat.zero_le _, .inl ⟨rfl, rfl⟩, .inl ⟨rfl, rfl⟩⟩
            · simp only
              rw [← hfin]
              simp [shift, Nat.add_assoc, Nat.add_comm]
          · have hbi : (b.toNat : Int) = 58 := by omega
            simp only [markF, hb, if_true] at hfin
            simp (disch := first | omega | (simp only [List.length_cons, List.length_nil, List.length_map, List.length_drop]; omega)) only [partV, hbi, wrap_i64, ob_app, ob_app0, ob_cons, ob_head, hrow, ↓evPre, ↓evPreW, evPost, evPostW, ← List.map_take, ← List.map_drop, ↓reduceIte, reduceCtorEq, Nat.reduceEqDiff, forall_const, implies_true, Nat.reduceAdd, Nat.reduceSub, Nat.reduceMul, Nat.reduceLT, Nat.reduceLeDiff, Int.reduceToNat, Int.reduceAdd, Int.reduceSub, Int.reduceNeg, Int.reduceMul, Int.reduceLT, Int.reduceLE, Int.reduceEq]
            exact end_false hn (by rw [← hfin]; simp [shift])
          · have hbi : (b.toNat : Int) = 39 := by omega
            simp only [markF, hb] at hfin
            simp (disch := first | omega | (simp only [List.length_cons, List.length_nil, List.length_map, List.length_drop]; omega)) only [partV, hbi, wrap_i64, ob_app, ob_app0, ob_cons, ob_head, hrow, hset, se_app, se_app0, se_cons, se_head, ap_app, le_app, List.cons_append, List.nil_append, List.length_cons, List.length_nil, ↓evPre, ↓evPreW, evPost, evPostW, ← List.map_take, ← List.map_drop, ↓reduceIte, reduceCtorEq, Nat.reduceEqDiff, forall_const, implies_true, Nat.reduceAdd, Nat.reduceSub, Nat.reduceMul, Nat.reduceLT, Nat.reduceLeDiff, Int.reduceToNat, Int.reduceAdd, Int.reduceSub, Int.reduceNeg, Int.reduceMul, Int.reduceLT, Int.reduceLE, Int.reduceEq]
            exact end_true (m := d + 1) hn (by rw [← hfin]; simp [shift, Nat.add_comm]) (.inl ⟨rfl, rfl⟩)
      | some ct =>
        obtain ⟨comps, text⟩ := ct
        obtain ⟨j, w, cs, c0, B, rfl, ho, hel, hB, hcur, htx⟩ := hst
        have hcast : ((k + d : Nat) : Int) + (n : Int) = ((k + (d + n) : Nat) : Int) := by omega
        have hgt : (0 : Int) < ((els.length + 1 : Nat) : Int) := by omega
        match pt, hfin with
        | none, hfin =>
          simp (disch := first | omega | (simp only [List.length_cons, List.length_nil, List.length_map, List.length_drop]; omega)) only [partV, wrap_i64, hcast, hgt, decide_true, ob_app, ob_app0, ob_cons, ob_head, hrow, hset, se_app, se_app0, se_cons, se_head, ho, ↓evPre, ↓evPreW, evPost, evPostW, ← List.map_take, ← List.map_drop, ↓reduceIte, reduceCtorEq, Nat.reduceEqDiff, forall_const, implies_true, Nat.reduceAdd, Nat.reduceSub, Nat.reduceMul, Nat.reduceLT, Nat.reduceLeDiff, Int.reduceToNat, Int.reduceAdd, Int.reduceSub, Int.reduceNeg, Int.reduceMul, Int.reduceLT, Int.reduceLE, Int.reduceEq]
          refine end_false (m := d + n) hn ?_
          rw [← hfin]
          simp [shift, Nat.add_comm]
        | some (false, b), hfin =>
          have hnl : 0 < n ∧ k + d + n ≤ s.length := by
            have := (List.getElem?_eq_some_iff.1 hc).1
            rcases nextF_letter hp with rfl | ⟨rfl, x, hx⟩
            · omega
            · have := (List.getElem?_eq_some_iff.1 hx).1
              omega
          simp only [curLen] at hsz
          have hfin2 : shift (d + n) (mach els (some (comps, text ++ [b])) (s.drop (k + (d + n)))) = mach [] none (s.drop k) := by
            rw [← hfin, List.drop_drop, Nat.add_assoc]
            simp [shift, Nat.add_assoc, Nat.add_comm n d]
          rcases htx with ⟨rfl, rfl⟩ | ⟨j3, w3, rfl, ho3⟩
          · simp (disch := first | omega | (simp only [List.length_cons, List.length_nil, List.length_map, List.length_drop]; omega)) only [partV, wrap_i64, hcast, hgt, decide_true, ob_app, ob_app0, ob_cons, ob_head, hrow, hset, se_app, se_app0, se_cons, se_head, ap_app, le_app, List.cons_append, List.nil_append, List.length_cons, List.length_nil, ho, ↓evPre, ↓evPreW, evPost, evPostW, ← List.map_take, ← List.map_drop, ↓reduceIte, reduceCtorEq, Nat.reduceEqDiff, forall_const, implies_true, Nat.reduceAdd, Nat.reduceSub, Nat.reduceMul, Nat.reduceLT, Nat.reduceLeDiff, Int.reduceToNat, Int.reduceAdd, Int.reduceSub, Int.reduceNeg, Int.reduceMul, Int.reduceLT, Int.reduceLE, Int.reduceEq]
            refine ⟨by unfold roomA; omega, (d + n, T ++ [⟨0, some (.arr 5 1 [[.int .u8 b.toNat]])⟩], _, .msl (S.length + (T.length + 2)) 0 0 1, els, some (comps, [b])), ⟨by simp only; omega, by simp [curLen] at hsz ⊢; omega, ?_, by simpa using hfin2⟩, by simp only; omega, rfl, rfl⟩
            exact ⟨j, w, cs, c0, B, rfl, Pres.push 40 T _ _ _ _ _ ho, hel.pres (Pres.push 9 T _).b, by simp; omega, hcur.pres (Pres.push 9 T _), .inr ⟨T.length, 0, rfl, obj_push⟩⟩
          · simp (disch := first | omega | (simp only [List.length_cons, List.length_nil, List.length_map, List.length_drop]; omega)) only [partV, wrap_i64, hcast, hgt, decide_true, ob_app, ob_app0, ob_cons, ob_head, hrow, hset, se_app, se_app0, se_cons, se_head, ap_app, le_app, List.cons_append, List.nil_append, List.length_cons, List.length_nil, ho, ho3, ↓evPre, ↓evPreW, evPost, evPostW, ← List.map_take, ← List.map_drop, ↓reduceIte, reduceCtorEq, Nat.reduceEqDiff, forall_const, implies_true, Nat.reduceAdd, Nat.reduceSub, Nat.reduceMul, Nat.reduceLT, Nat.reduceLeDiff, Int.reduceToNat, Int.reduceAdd, Int.reduceSub, Int.reduceNeg, Int.reduceMul, Int.reduceLT, Int.reduceLE, Int.reduceEq]
            refine ⟨byteRows_len _, by unfold roomA; omega, (d + n, T.set j3 ⟨w3 + 1, some (.arr 5 1 (byteRows (text ++ [b])))⟩, .msl (S.length + (j + 2)) w 0 (els.length + 1), .msl (S.length + (j3 + 2)) (w3 + 1) 0 (text.length + 1), els, some (comps, text ++ [b])), ⟨by simp only; omega, by simp only [curLen, List.length_append, List.length_cons, List.length_nil]; omega, ?_, hfin2⟩, by simp only; omega, rfl, ?_⟩
            · exact ⟨j, w, cs, c0, B, rfl, Pres.set ho3 (by decide) _ _ _ _ ho, hel.pres (Pres.set ho3 (by decide)).b, by simpa using hB, hcur.pres (Pres.set ho3 (by decide)), .inr ⟨j3, w3 + 1, by simp, obj_set ho3⟩⟩
            · simp only
              rw [byteRows_app]
              rfl
        | some (true, b), hfin =>
          obtain ⟨rfl, hb⟩ := nextF_mark hp
          simp only [curLen] at hsz
          have hcast1 : ((k + d : Nat) : Int) + ((1 : Nat) : Int) = ((k + (d + 1) : Nat) : Int) := by omega
          rw [List.drop_drop] at hfin
          have e1 : (((els.length + 1 : Nat) : Int) - 1).toNat = els.length := by omega
          have hcl : (cs.map oneR).length = els.length := by rw [List.length_map, hel.1]
          have hrow2 : ∀ (x : List V), (cs.map oneR ++ [x])[els.length]? = some x := fun x => by rw [List.getElem?_append_right (by omega), hcl]; simp
          have hset2 : ∀ (x y : List V), (cs.map oneR ++ [x]).set els.length y = cs.map oneR ++ [y] := fun x y => by rw [List.set_append_right _ _ (by omega), hcl]; simp
          have htext : TxE S T tx text := htx
          have hb2 : b2sV (S ++ ⟨0, some (.arr 63 3 [[.str s, .int .i64 (k + d : Nat), .msl (S.length + 1) v 0 (ls.length + 1)]])⟩ :: ⟨v, some (.arr 35 2 (ls.map lnR ++ [[.str tag, .msl (S.length + (j + 2)) w 0 (els.length + 1)]]))⟩ :: T) tx = some (.str text) := by
            rcases htext with ⟨rfl, rfl⟩ | ⟨j3, w3, rfl, ho3⟩
            · exact b2s_nil
            · rw [b2s_msl, ob_app, ob_cons, ob_cons, ho3]
              exact b2sO_some rfl
          rcases hcur with ⟨rfl, rfl⟩ | ⟨j2, w2, hj2, rfl, ho2⟩
          · have hoP : ∀ o, Store.obj? (T ++ [o]) j w = some (40, 1, cs.map oneR ++ [[V.nilSl]]) := fun o => Pres.push 40 T o _ _ _ _ ho
            have hoS : ∀ (o : AL.Obj) (rs : List (List V)), Store.obj? ((T ++ [o]).set j ⟨w, some (.arr 40 1 rs)⟩) j w = some (40, 1, rs) := fun o rs => obj_set (hoP o)
            rcases hb with hb | hb | hb
            · have hbi : (b.toNat : Int) = 43 := by omega
              simp only [markF, hb] at hfin
              simp (disch := first | omega | (simp only [List.length_cons, List.length_nil, List.length_map, List.length_drop]; omega)) only [partV, hbi, hb2, hcast1, hgt, e1, hrow2, hset2, hoP, hoS, ho, decide_true, wrap_i64, ob_app, ob_app0, ob_cons, ob_head, hrow, hset, se_app, se_app0, se_cons, se_head, ap_app, le_app, List.cons_append, List.nil_append, List.length_cons, List.length_nil, ↓evPre, ↓evPreW, evPost, evPostW, ← List.map_take, ← List.map_drop, ↓reduceIte, reduceCtorEq, Nat.reduceEqDiff, forall_const, implies_true, Nat.reduceAdd, Nat.reduceSub, Nat.reduceMul, Nat.reduceLT, Nat.reduceLeDiff, Int.reduceToNat, Int.reduceAdd, Int.reduceSub, Int.reduceNeg, Int.reduceMul, Int.reduceLT, Int.reduceLE, Int.reduceEq]
              refine ⟨by unfold roomA; omega, by simp [hel.1], by unfold roomA; omega, (d + 1, _, _, .nilSl, els ++ [[text]], some ([], [])), ⟨by simp only; omega, by simp [curLen]; omega, (ended_new text ho hel hB).plus, ?_⟩, by simp only; omega, rfl, rfl⟩
              · simp only
                rw [← hfin]
                simp [shift, Nat.add_assoc, Nat.add_comm]
            · have hbi : (b.toNat : Int) = 58 := by omega
              simp only [markF, hb, if_true] at hfin
              simp (disch := first | omega | (simp only [List.length_cons, List.length_nil, List.length_map, List.length_drop]; omega)) only [partV, hbi, hb2, hcast1, hgt, e1, hrow2, hset2, hoP, hoS, ho, decide_true, wrap_i64, ob_app, ob_app0, ob_cons, ob_head, hrow, hset, se_app, se_app0, se_cons, se_head, ap_app, le_app, List.cons_append, List.nil_append, List.length_cons, List.length_nil, ↓evPre, ↓evPreW, evPost, evPostW, ← List.map_take, ← List.map_drop, ↓reduceIte, reduceCtorEq, Nat.reduceEqDiff, forall_const, implies_true, Nat.reduceAdd, Nat.reduceSub, Nat.reduceMul, Nat.reduceLT, Nat.reduceLeDiff, Int.reduceToNat, Int.reduceAdd, Int.reduceSub, Int.reduceNeg, Int.reduceMul, Int.reduceLT, Int.reduceLE, Int.reduceEq]
              refine ⟨by unfold roomA; omega, (d + 1, _, _, .nilSl, els, some ([text], [])), ⟨by simp only; omega, by simp [curLen]; omega, (ended_new text ho hel hB).colon, ?_⟩, by simp only; omega, rfl, rfl⟩
              · simp only
                rw [← hfin]
                simp [shift, Nat.add_assoc, Nat.add_comm]
            · have hbi : (b.toNat : Int) = 39 := by omega
              simp only [markF, hb] at hfin
              simp (disch := first | omega | (simp only [List.length_cons, List.length_nil, List.length_map, List.length_drop]; omega)) only [partV, hbi, hb2, hcast1, hgt, e1, hrow2, hset2, hoP, hoS, ho, decide_true, wrap_i64, ob_app, ob_app0, ob_cons, ob_head, hrow, hset, se_app, se_app0, se_cons, se_head, ap_app, le_app, List.cons_append, List.nil_append, List.length_cons, List.length_nil, ↓evPre, ↓evPreW, evPost, evPostW, ← List.map_take, ← List.map_drop, ↓reduceIte, reduceCtorEq, Nat.reduceEqDiff, forall_const, implies_true, Nat.reduceAdd, Nat.reduceSub, Nat.reduceMul, Nat.reduceLT, Nat.reduceLeDiff, Int.reduceToNat, Int.reduceAdd, Int.reduceSub, Int.reduceNeg, Int.reduceMul, Int.reduceLT, Int.reduceLE, Int.reduceEq]
              refine ⟨by unfold roomA; omega, ?_⟩
              exact end_true (m := d + 1) hn (by rw [← hfin]; simp [shift, Nat.add_comm]) (ended_new text ho hel hB).quote
          · have hoP : ∀ rs, Store.obj? (List.set T j2 ⟨w2 + 1, some (.arr 9 1 rs)⟩) j w = some (40, 1, cs.map oneR ++ [[V.msl (S.length + (j2 + 2)) w2 0 comps.length]]) := fun rs => Pres.set ho2 (by decide) _ _ _ _ ho
            have hoS : ∀ (rs rs2 : List (List V)), Store.obj? ((List.set T j2 ⟨w2 + 1, some (.arr 9 1 rs)⟩).set j ⟨w, some (.arr 40 1 rs2)⟩) j w = some (40, 1, rs2) := fun rs rs2 => obj_set (hoP rs)
            rcases hb with hb | hb | hb
            · have hbi : (b.toNat : Int) = 43 := by omega
              simp only [markF, hb] at hfin
              simp (disch := first | omega | (simp only [List.length_cons, List.length_nil, List.length_map, List.length_drop]; omega)) only [partV, hbi, hb2, hcast1, hgt, e1, hrow2, hset2, hoP, hoS, ho2, ho, decide_true, wrap_i64, ob_app, ob_app0, ob_cons, ob_head, hrow, hset, se_app, se_app0, se_cons, se_head, ap_app, le_app, List.cons_append, List.nil_append, List.length_cons, List.length_nil, ↓evPre, ↓evPreW, evPost, evPostW, ← List.map_take, ← List.map_drop, ↓reduceIte, reduceCtorEq, Nat.reduceEqDiff, forall_const, implies_true, Nat.reduceAdd, Nat.reduceSub, Nat.reduceMul, Nat.reduceLT, Nat.reduceLeDiff, Int.reduceToNat, Int.reduceAdd, Int.reduceSub, Int.reduceNeg, Int.reduceMul, Int.reduceLT, Int.reduceLE, Int.reduceEq]
              refine ⟨by unfold roomA; omega, by simp [hel.1], by unfold roomA; omega, (d + 1, _, _, .nilSl, els ++ [comps ++ [text]], some ([], [])), ⟨by simp only; omega, by simp [curLen]; omega, (ended_more text ho hel hj2 ho2).plus, ?_⟩, by simp only; omega, rfl, rfl⟩
              · simp only
                rw [← hfin]
                simp [shift, Nat.add_assoc, Nat.add_comm]
            · have hbi : (b.toNat : Int) = 58 := by omega
              simp only [markF, hb, if_true] at hfin
              simp (disch := first | omega | (simp only [List.length_cons, List.length_nil, List.length_map, List.length_drop]; omega)) only [partV, hbi, hb2, hcast1, hgt, e1, hrow2, hset2, hoP, hoS, ho2, ho, decide_true, wrap_i64, ob_app, ob_app0, ob_cons, ob_head, hrow, hset, se_app, se_app0, se_cons, se_head, ap_app, le_app, List.cons_append, List.nil_append, List.length_cons, List.length_nil, ↓evPre, ↓evPreW, evPost, evPostW, ← List.map_take, ← List.map_drop, ↓reduceIte, reduceCtorEq, Nat.reduceEqDiff, forall_const, implies_true, Nat.reduceAdd, Nat.reduceSub, Nat.reduceMul, Nat.reduceLT, Nat.reduceLeDiff, Int.reduceToNat, Int.reduceAdd, Int.reduceSub, Int.reduceNeg, Int.reduceMul, Int.reduceLT, Int.reduceLE, Int.reduceEq]
              refine ⟨by unfold roomA; omega, (d + 1, _, _, .nilSl, els, some (comps ++ [text], [])), ⟨by simp only; omega, by simp [curLen]; omega, (ended_more text ho hel hj2 ho2).colon, ?_⟩, by simp only; omega, rfl, rfl⟩
              · simp only
                rw [← hfin]
                simp [shift, Nat.add_assoc, Nat.add_comm]
            · have hbi : (b.toNat : Int) = 39 := by omega
              simp only [markF, hb] at hfin
              simp (disch := first | omega | (simp only [List.length_cons, List.length_nil, List.length_map, List.length_drop]; omega)) only [partV, hbi, hb2, hcast1, hgt, e1, hrow2, hset2, hoP, hoS, ho2, ho, decide_true, wrap_i64, ob_app, ob_app0, ob_cons, ob_head, hrow, hset, se_app, se_app0, se_cons, se_head, ap_app, le_app, List.cons_append, List.nil_append, List.length_cons, List.length_nil, ↓evPre, ↓evPreW, evPost, evPostW, ← List.map_take, ← List.map_drop, ↓reduceIte, reduceCtorEq, Nat.reduceEqDiff, forall_const, implies_true, Nat.reduceAdd, Nat.reduceSub, Nat.reduceMul, Nat.reduceLT, Nat.reduceLeDiff, Int.reduceToNat, Int.reduceAdd, Int.reduceSub, Int.reduceNeg, Int.reduceMul, Int.reduceLT, Int.reduceLE, Int.reduceEq]
              refine ⟨by unfold roomA; omega, ?_⟩
              exact end_true (m := d + 1) hn (by rw [← hfin]; simp [shift, Nat.add_comm]) (ended_more text ho hel hj2 ho2).quote
end Go.Proofs.Ytpblahljlbakdaa
