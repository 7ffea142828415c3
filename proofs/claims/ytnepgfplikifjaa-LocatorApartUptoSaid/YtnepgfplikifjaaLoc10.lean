/- The walk of LocatorApart. -/
import Derived.Test.YtnepgfplikifjaaLoc9
namespace Go.Proofs.Ytnepgfplikifjaa
open Go Go.AL
set_option linter.unusedSimpArgs false
set_option linter.unusedVariables false
set_option maxHeartbeats 4000000

def dif (a b : List UInt8) : Nat → Nat
  | 0 => 0
  | k + 1 => dif a b k + if a[k]? = b[k]? then 0 else 1

theorem dif_le (a b : List UInt8) : ∀ k, dif a b k ≤ k
  | 0 => Nat.le_refl _
  | k + 1 => by
    have := dif_le a b k
    rw [dif]
    split <;> omega

theorem dif_zero {a b : List UInt8} : ∀ k, dif a b k = 0 → ∀ j, j < k → a[j]? = b[j]?
  | 0, _, j, hj => by omega
  | k + 1, h, j, hj => by
    rw [dif] at h
    split at h
    · rename_i he
      by_cases hjk : j = k
      · subst hjk; exact he
      · exact dif_zero k (by omega) j (by omega)
    · omega

theorem dif_one {a b : List UInt8} : ∀ k, dif a b k ≤ 1 → ∃ i, ∀ j, j < k → j ≠ i → a[j]? = b[j]?
  | 0, _ => ⟨0, fun j hj => by omega⟩
  | k + 1, h => by
    rw [dif] at h
    split at h
    · rename_i he
      obtain ⟨i, hi⟩ := dif_one k (by omega)
      refine ⟨i, fun j hj hji => ?_⟩
      by_cases hjk : j = k
      · subst hjk; exact he
      · exact hi j (by omega) hji
    · refine ⟨k, fun j hj hji => dif_zero k (by omega) j (by omega)⟩

theorem dif_two {a b : List UInt8} (ha : good a = true) (hb : good b = true) (h : a ≠ b) : 2 ≤ dif a b 6 := by
  refine Nat.not_lt.1 fun hlt => h ?_
  obtain ⟨i, hi⟩ := dif_one (a := a) (b := b) 6 (by omega)
  have la := (good_iff.1 ha).1
  have lb := (good_iff.1 hb).1
  refine apart ha hb (i := i) fun j hj => ?_
  by_cases h6 : j < 6
  · exact hi j h6 hj
  · rw [List.getElem?_eq_none (by omega), List.getElem?_eq_none (by omega)]

theorem near_self {a : List UInt8} (ha : good a = true) : nearF a = [] := by
  have la := (good_iff.1 ha).1
  have : cto a 6 = [] := by
    refine List.eq_nil_iff_forall_not_mem.2 fun t ht => ?_
    obtain ⟨m, j, hm, hj, rfl, hc⟩ := (cto_le la 6 (Nat.le_refl _)).2 t ht
    simp only [isC, Bool.and_eq_true, decide_eq_true_eq] at hc
    exact hc.1 (apart hc.2 ha (i := m) fun x hx => repl_get j la hm hx)
  rw [nearF, if_pos la, this]
  rfl

def put (a : List UInt8) (i : Nat) (c : UInt8) : List UInt8 := a.take i ++ [c] ++ a.drop (i + 1)

theorem put_back {a : List UInt8} {i : Nat} (c : UInt8) (la : a.length = 6) (hi : i < 6) {x : UInt8} (hx : a[i]? = some x) : (put a i c).take i ++ [x] ++ (put a i c).drop (i + 1) = a ∧ (put a i c).length = 6 := by
  have hl : (a.take i).length = i := by simp; omega
  have h1 : (put a i c).take i = a.take i := by rw [put, List.append_assoc, List.take_left' hl]
  have h2 : (put a i c).drop (i + 1) = a.drop (i + 1) := by
    rw [put, List.drop_left' (by simp; omega)]
  refine ⟨?_, by simp [put]; omega⟩
  rw [h1, h2, List.append_assoc, List.singleton_append, ← drop_get hx, List.take_append_drop]

theorem near_has {a : List UInt8} {i : Nat} {c : UInt8} (ha : good a = true) (hi : i < 6) (h : put a i c ≠ a) : a ∈ nearF (put a i c) ∧ good (put a i c) = false := by
  obtain ⟨la, hv, he⟩ := good_iff.1 ha
  obtain ⟨x, hx⟩ : ∃ x, a[i]? = some x := ⟨a[i]'(by omega), List.getElem?_eq_getElem _⟩
  obtain ⟨p1, p2⟩ := put_back c la hi hx
  have hbad : good (put a i c) = false := by
    cases hg : good (put a i c)
    · rfl
    · refine absurd (apart hg ha (i := i) fun j hj => ?_) h
      have hl : (a.take i).length = i := by simp; omega
      rw [put, List.append_assoc]
      by_cases hji : j < i
      · rw [List.getElem?_append_left (by omega), List.getElem?_take, if_pos hji]
      · rw [List.getElem?_append_right (by omega), hl]
        have : j - i = (j - i - 1) + 1 := by omega
        rw [this, List.singleton_append, List.getElem?_cons_succ, List.getElem?_drop]
        congr 1
        omega
  refine ⟨?_, hbad⟩
  -- the character's value
  have hxa : ∃ k, k < 32 ∧ ab.getD k 0 = x := by
    by_cases h5 : i < 5
    · have hm : ix x ∈ vals a := List.mem_of_getElem? (vals_get h5 hx)
      rcases ix_cases x with h1 | ⟨k, h1, h2, h3⟩
      · have := hv _ hm; omega
      · exact ⟨k, h2, by rw [List.getD_eq_getElem?_getD, h3]; rfl⟩
    · have h5' : i = 5 := by omega
      subst h5'
      have hl' : ((vals a).map atc).length = 5 := by simp [vals]; omega
      have : a[5]? = (enc (vals a))[5]? := congrArg (fun l => l[5]?) he
      rw [hx, enc, List.getElem?_append_right (by omega), hl'] at this
      have := Option.some.inj this
      have hc := chk_small (vals a)
      exact ⟨(chk (vals a)).toNat, by omega, this.symm⟩
  obtain ⟨k, hk, hkx⟩ := hxa
  have hr : repl (put a i c) i k = a := by rw [repl, hkx, p1]
  have hmem := repl_mem p2 hi hk (by
    rw [hr]
    simp only [isC, ha, Bool.and_true, decide_eq_true_eq]
    exact fun hh => h hh.symm)
  rw [hr] at hmem
  rw [near_mem p2]
  exact hmem

theorem apart_A (n m : Int) (at' : Int) (c : UInt8) (S : Store) (hn : 0 ≤ n ∧ n ≤ 4294967295) (hm : 0 ≤ m ∧ m ≤ 4294967295) (hat : 0 ≤ at' ∧ at' ≤ 255) : CallA Try.prog 5 [.int .u32 n, .int .u32 m, .int .u8 at', .int .u8 c.toNat] S fun r S' => r = .bool true ∧ S' = S := by
  refine CallA.keep Try.func5 c5 (Nat.le_of_ble_eq_true rfl) fun σ hσ => ?_
  simp (disch := first | omega | (simp only [List.length_cons, List.length_nil, List.length_map, List.length_drop]; omega)) only [a5, bi_rem, wrap_i64, Int.tmod_eq_emod_of_nonneg, ↓evPre, ↓evPreW, evPost, evPostW, ← List.map_take, ← List.map_drop, ↓reduceIte, reduceCtorEq, Nat.reduceEqDiff, forall_const, implies_true, Nat.reduceAdd, Nat.reduceSub, Nat.reduceMul, Nat.reduceLT, Nat.reduceLeDiff, Int.reduceToNat, Int.reduceAdd, Int.reduceSub, Int.reduceNeg, Int.reduceMul, Int.reduceLT, Int.reduceLE, Int.reduceEq]
  obtain ⟨n', hn'⟩ : ∃ n', n' = n % 33554432 := ⟨_, rfl⟩
  obtain ⟨m', hm'⟩ : ∃ m', m' = m % 33554432 := ⟨_, rfl⟩
  rw [← hn']
  refine (of_A n' S).then ?_
  simp (disch := first | omega | (simp only [List.length_cons, List.length_nil, List.length_map, List.length_drop]; omega)) only [bi_rem, wrap_i64, Int.tmod_eq_emod_of_nonneg, ← hm', ↓evPre, ↓evPreW, evPost, evPostW, ← List.map_take, ← List.map_drop, ↓reduceIte, reduceCtorEq, Nat.reduceEqDiff, forall_const, implies_true, Nat.reduceAdd, Nat.reduceSub, Nat.reduceMul, Nat.reduceLT, Nat.reduceLeDiff, Int.reduceToNat, Int.reduceAdd, Int.reduceSub, Int.reduceNeg, Int.reduceMul, Int.reduceLT, Int.reduceLE, Int.reduceEq]
  refine (of_A m' S).then ?_
  have h1 : ofF n' = (enc (digs n'), 0) := by rw [ofF, if_neg (by omega)]
  have h2 : ofF m' = (enc (digs m'), 0) := by rw [ofF, if_neg (by omega)]
  have g1 := (num_enc (n := n') (by omega)).2
  have g2 := (num_enc (n := m') (by omega)).2
  rw [h1, h2]
  obtain ⟨a, ha⟩ : ∃ a, a = enc (digs n') := ⟨_, rfl⟩
  obtain ⟨b, hb⟩ : ∃ b, b = enc (digs m') := ⟨_, rfl⟩
  rw [← ha] at g1
  rw [← hb] at g2
  rw [← ha, ← hb]
  have la := (good_iff.1 g1).1
  have lb := (good_iff.1 g2).1
  have la' : (a.length : Int) = 6 := by omega
  have lb' : (b.length : Int) = 6 := by omega
  simp (disch := first | omega | (simp only [List.length_cons, List.length_nil, List.length_map, List.length_drop]; omega)) only [la', lb', decide_true, ↓evPre, ↓evPreW, evPost, evPostW, ← List.map_take, ← List.map_drop, ↓reduceIte, reduceCtorEq, Nat.reduceEqDiff, forall_const, implies_true, Nat.reduceAdd, Nat.reduceSub, Nat.reduceMul, Nat.reduceLT, Nat.reduceLeDiff, Int.reduceToNat, Int.reduceAdd, Int.reduceSub, Int.reduceNeg, Int.reduceMul, Int.reduceLT, Int.reduceLE, Int.reduceEq]
  refine loopA (ι := Nat) (fun k => [(0, .int .u32 n), (1, .int .u32 m), (2, .int .u8 at'), (3, .int .u8 c.toNat), (9, .str a), (11, .str b), (13, .int .i64 (dif a b k)), (14, .int .i64 k)]) (fun _ => S) (fun k => k ≤ 6) (fun k => 6 - k) 0 (Nat.zero_le _) ?_ rfl ?_
  · simp only [dif, ↓evPre, ↓evPreW, evPost, evPostW, ← List.map_take, ← List.map_drop, ↓reduceIte, reduceCtorEq, Nat.reduceEqDiff, forall_const, implies_true, Nat.reduceAdd, Nat.reduceSub, Nat.reduceMul, Nat.reduceLT, Nat.reduceLeDiff, Int.reduceToNat, Int.reduceAdd, Int.reduceSub, Int.reduceNeg, Int.reduceMul, Int.reduceLT, Int.reduceLE, Int.reduceEq]
  · intro k hk
    have hdl := dif_le a b k
    by_cases hlt : (k : Int) < 6
    · obtain ⟨x, hx⟩ : ∃ x, a[k]? = some x := ⟨a[k]'(by omega), List.getElem?_eq_getElem _⟩
      obtain ⟨y, hy⟩ : ∃ y, b[k]? = some y := ⟨b[k]'(by omega), List.getElem?_eq_getElem _⟩
      by_cases hxy : x = y
      · subst hxy
        simp (disch := first | omega | (simp only [List.length_cons, List.length_nil, List.length_map, List.length_drop]; omega)) only [hlt, hx, hy, decide_true, wrap_i64, ↓evPre, ↓evPreW, evPost, evPostW, ← List.map_take, ← List.map_drop, ↓reduceIte, reduceCtorEq, Nat.reduceEqDiff, forall_const, implies_true, Nat.reduceAdd, Nat.reduceSub, Nat.reduceMul, Nat.reduceLT, Nat.reduceLeDiff, Int.reduceToNat, Int.reduceAdd, Int.reduceSub, Int.reduceNeg, Int.reduceMul, Int.reduceLT, Int.reduceLE, Int.reduceEq]
        exact ⟨k + 1, by omega, by omega, by rw [dif, hx, hy, if_pos rfl]; omega, by omega⟩
      · have hxy' : ¬ (x.toNat : Int) = (y.toNat : Int) := fun h => hxy ((u8_eq x y).1 h)
        have hne : ¬ (some x = some y) := fun h => hxy (Option.some.inj h)
        simp (disch := first | omega | (simp only [List.length_cons, List.length_nil, List.length_map, List.length_drop]; omega)) only [hlt, hx, hy, hxy', decide_true, wrap_i64, ↓evPre, ↓evPreW, evPost, evPostW, ← List.map_take, ← List.map_drop, ↓reduceIte, reduceCtorEq, Nat.reduceEqDiff, forall_const, implies_true, Nat.reduceAdd, Nat.reduceSub, Nat.reduceMul, Nat.reduceLT, Nat.reduceLeDiff, Int.reduceToNat, Int.reduceAdd, Int.reduceSub, Int.reduceNeg, Int.reduceMul, Int.reduceLT, Int.reduceLE, Int.reduceEq]
        exact ⟨k + 1, by omega, by omega, by rw [dif, hx, hy, if_neg hne]; omega, by omega⟩
    · have hk6 : k = 6 := by omega
      subst hk6
      -- behind the count
      obtain ⟨i, hi, hi6⟩ : ∃ i : Nat, at' % 6 = i ∧ i < 6 := ⟨(at' % 6).toNat, by omega, by omega⟩
      have c1 := cutS_pre (s := a) (i := i) (by omega)
      have c2 := cutS_suf (s := a) (i := i) (by omega)
      rw [la'] at c2
      have hbs : b2sV S (.sl 1 [[.int .u8 (c.toNat : Int)]]) = some (.str [c]) := b2s_sl (l := [c])
      have a1 : binV .add (.str (a.take i)) (.str [c]) = some (.str (a.take i ++ [c])) := add_ok (by simp; omega)
      have a2 : binV .add (.str (a.take i ++ [c])) (.str (a.drop (i + 1))) = some (.str (put a i c)) := add_ok (by simp; omega)
      by_cases hab : a = b
      · have hab' : (a = b) = True := eq_true hab
        by_cases hs : put a i c = a
        · simp (disch := first | omega | (simp only [List.length_cons, List.length_nil, List.length_map, List.length_drop]; omega)) only [hlt, hab', hi, la', c1, c2, hbs, a1, a2, hs, decide_true, wrap_i64, bi_rem, Int.tmod_eq_emod_of_nonneg, slS_str, ↓evPre, ↓evPreW, evPost, evPostW, ← List.map_take, ← List.map_drop, ↓reduceIte, reduceCtorEq, Nat.reduceEqDiff, forall_const, implies_true, Nat.reduceAdd, Nat.reduceSub, Nat.reduceMul, Nat.reduceLT, Nat.reduceLeDiff, Int.reduceToNat, Int.reduceAdd, Int.reduceSub, Int.reduceNeg, Int.reduceMul, Int.reduceLT, Int.reduceLE, Int.reduceEq]
          refine (near_A a S).then ?_
          simp (disch := first | omega | (simp only [List.length_cons, List.length_nil, List.length_map, List.length_drop]; omega)) only [near_self g1, sR, decide_true, ↓evPre, ↓evPreW, evPost, evPostW, ← List.map_take, ← List.map_drop, ↓reduceIte, reduceCtorEq, Nat.reduceEqDiff, forall_const, implies_true, Nat.reduceAdd, Nat.reduceSub, Nat.reduceMul, Nat.reduceLT, Nat.reduceLeDiff, Int.reduceToNat, Int.reduceAdd, Int.reduceSub, Int.reduceNeg, Int.reduceMul, Int.reduceLT, Int.reduceLE, Int.reduceEq]
          refine (knows_A S).then ?_
          simp only [↓evPre, ↓evPreW, evPost, evPostW, ← List.map_take, ← List.map_drop, ↓reduceIte, reduceCtorEq, Nat.reduceEqDiff, forall_const, implies_true, Nat.reduceAdd, Nat.reduceSub, Nat.reduceMul, Nat.reduceLT, Nat.reduceLeDiff, Int.reduceToNat, Int.reduceAdd, Int.reduceSub, Int.reduceNeg, Int.reduceMul, Int.reduceLT, Int.reduceLE, Int.reduceEq]
        · obtain ⟨hmem, hbad⟩ := near_has g1 hi6 hs
          simp (disch := first | omega | (simp only [List.length_cons, List.length_nil, List.length_map, List.length_drop]; omega)) only [hlt, hab', hi, la', c1, c2, hbs, a1, a2, hs, decide_true, wrap_i64, bi_rem, Int.tmod_eq_emod_of_nonneg, slS_str, ↓evPre, ↓evPreW, evPost, evPostW, ← List.map_take, ← List.map_drop, ↓reduceIte, reduceCtorEq, Nat.reduceEqDiff, forall_const, implies_true, Nat.reduceAdd, Nat.reduceSub, Nat.reduceMul, Nat.reduceLT, Nat.reduceLeDiff, Int.reduceToNat, Int.reduceAdd, Int.reduceSub, Int.reduceNeg, Int.reduceMul, Int.reduceLT, Int.reduceLE, Int.reduceEq]
          refine (near_A (put a i c) S).then ?_
          simp only [↓evPre, ↓evPreW, evPost, evPostW, ← List.map_take, ← List.map_drop, ↓reduceIte, reduceCtorEq, Nat.reduceEqDiff, forall_const, implies_true, Nat.reduceAdd, Nat.reduceSub, Nat.reduceMul, Nat.reduceLT, Nat.reduceLeDiff, Int.reduceToNat, Int.reduceAdd, Int.reduceSub, Int.reduceNeg, Int.reduceMul, Int.reduceLT, Int.reduceLE, Int.reduceEq]
          obtain ⟨l, hl⟩ : ∃ l, l = nearF (put a i c) := ⟨_, rfl⟩
          rw [← hl] at hmem ⊢
          refine loopA (ι := Nat) (fun k => [(9, .str a), (16, .str (put a i c)), (17, .bool ((l.take k).any fun t => decide (t = a))), (18, .sl 1 (sR l)), (19, .int .i64 k)]) (fun _ => S) (fun k => k ≤ l.length) (fun k => l.length - k) 0 (Nat.zero_le _) ?_ rfl ?_
          · simp only [↓evPre, ↓evPreW, evPost, evPostW, ← List.map_take, ← List.map_drop, ↓reduceIte, reduceCtorEq, Nat.reduceEqDiff, forall_const, implies_true, Nat.reduceAdd, Nat.reduceSub, Nat.reduceMul, Nat.reduceLT, Nat.reduceLeDiff, Int.reduceToNat, Int.reduceAdd, Int.reduceSub, Int.reduceNeg, Int.reduceMul, Int.reduceLT, Int.reduceLE, Int.reduceEq]
            simp
          · intro k hk
            have hll : l.length ≤ 6 := by
              rw [hl]
              unfold nearF
              split
              · rename_i hs6
                rw [fold_len]
                exact (cto_le hs6 6 (Nat.le_refl _)).1
              · simp
            by_cases hlt3 : (k : Int) < l.length
            · obtain ⟨t, ht⟩ : ∃ t, l[k]? = some t := ⟨l[k]'(by omega), List.getElem?_eq_getElem _⟩
              have htk : (l.take (k + 1)).any (fun t => decide (t = a)) = ((l.take k).any (fun t => decide (t = a)) || decide (t = a)) := by
                rw [List.take_add_one, ht, List.any_append]
                simp
              cases hany : (l.take k).any (fun t => decide (t = a))
              · rw [hany] at htk
                simp (disch := first | omega | (simp only [List.length_cons, List.length_nil, List.length_map, List.length_drop]; omega)) only [hlt3, sR_len, sR_get, ht, decide_true, wrap_i64, ↓evPre, ↓evPreW, evPost, evPostW, ← List.map_take, ← List.map_drop, ↓reduceIte, reduceCtorEq, Nat.reduceEqDiff, forall_const, implies_true, Nat.reduceAdd, Nat.reduceSub, Nat.reduceMul, Nat.reduceLT, Nat.reduceLeDiff, Int.reduceToNat, Int.reduceAdd, Int.reduceSub, Int.reduceNeg, Int.reduceMul, Int.reduceLT, Int.reduceLE, Int.reduceEq]
                exact ⟨k + 1, by omega, by omega, by rw [htk]; simp, by omega⟩
              · rw [hany] at htk
                simp (disch := first | omega | (simp only [List.length_cons, List.length_nil, List.length_map, List.length_drop]; omega)) only [hlt3, sR_len, sR_get, ht, decide_true, wrap_i64, ↓evPre, ↓evPreW, evPost, evPostW, ← List.map_take, ← List.map_drop, ↓reduceIte, reduceCtorEq, Nat.reduceEqDiff, forall_const, implies_true, Nat.reduceAdd, Nat.reduceSub, Nat.reduceMul, Nat.reduceLT, Nat.reduceLeDiff, Int.reduceToNat, Int.reduceAdd, Int.reduceSub, Int.reduceNeg, Int.reduceMul, Int.reduceLT, Int.reduceLE, Int.reduceEq]
                exact ⟨k + 1, by omega, by omega, by rw [htk]; simp, by omega⟩
            · have hall : (l.take k).any (fun t => decide (t = a)) = true := by
                rw [List.take_of_length_le (by omega), List.any_eq_true]
                exact ⟨a, hmem, decide_eq_true rfl⟩
              simp (disch := first | omega | (simp only [List.length_cons, List.length_nil, List.length_map, List.length_drop]; omega)) only [hlt3, sR_len, hall, wrap_i64, ↓evPre, ↓evPreW, evPost, evPostW, ← List.map_take, ← List.map_drop, ↓reduceIte, reduceCtorEq, Nat.reduceEqDiff, forall_const, implies_true, Nat.reduceAdd, Nat.reduceSub, Nat.reduceMul, Nat.reduceLT, Nat.reduceLeDiff, Int.reduceToNat, Int.reduceAdd, Int.reduceSub, Int.reduceNeg, Int.reduceMul, Int.reduceLT, Int.reduceLE, Int.reduceEq]
              refine (right_A (put a i c) S).then ?_
              simp only [hbad, ↓evPre, ↓evPreW, evPost, evPostW, ← List.map_take, ← List.map_drop, ↓reduceIte, reduceCtorEq, Nat.reduceEqDiff, forall_const, implies_true, Nat.reduceAdd, Nat.reduceSub, Nat.reduceMul, Nat.reduceLT, Nat.reduceLeDiff, Int.reduceToNat, Int.reduceAdd, Int.reduceSub, Int.reduceNeg, Int.reduceMul, Int.reduceLT, Int.reduceLE, Int.reduceEq]
              refine (knows_A S).then ?_
              simp only [↓evPre, ↓evPreW, evPost, evPostW, ← List.map_take, ← List.map_drop, ↓reduceIte, reduceCtorEq, Nat.reduceEqDiff, forall_const, implies_true, Nat.reduceAdd, Nat.reduceSub, Nat.reduceMul, Nat.reduceLT, Nat.reduceLeDiff, Int.reduceToNat, Int.reduceAdd, Int.reduceSub, Int.reduceNeg, Int.reduceMul, Int.reduceLT, Int.reduceLE, Int.reduceEq]
      · have hab' : (a = b) = False := eq_false hab
        have h2' : ¬ ((dif a b 6 : Nat) : Int) < 2 := by
          have := dif_two g1 g2 hab
          omega
        by_cases hs : put a i c = a
        · simp (disch := first | omega | (simp only [List.length_cons, List.length_nil, List.length_map, List.length_drop]; omega)) only [hlt, hab', h2', hi, la', c1, c2, hbs, a1, a2, hs, decide_true, wrap_i64, bi_rem, Int.tmod_eq_emod_of_nonneg, slS_str, ↓evPre, ↓evPreW, evPost, evPostW, ← List.map_take, ← List.map_drop, ↓reduceIte, reduceCtorEq, Nat.reduceEqDiff, forall_const, implies_true, Nat.reduceAdd, Nat.reduceSub, Nat.reduceMul, Nat.reduceLT, Nat.reduceLeDiff, Int.reduceToNat, Int.reduceAdd, Int.reduceSub, Int.reduceNeg, Int.reduceMul, Int.reduceLT, Int.reduceLE, Int.reduceEq]
          refine (near_A a S).then ?_
          simp (disch := first | omega | (simp only [List.length_cons, List.length_nil, List.length_map, List.length_drop]; omega)) only [near_self g1, sR, decide_true, ↓evPre, ↓evPreW, evPost, evPostW, ← List.map_take, ← List.map_drop, ↓reduceIte, reduceCtorEq, Nat.reduceEqDiff, forall_const, implies_true, Nat.reduceAdd, Nat.reduceSub, Nat.reduceMul, Nat.reduceLT, Nat.reduceLeDiff, Int.reduceToNat, Int.reduceAdd, Int.reduceSub, Int.reduceNeg, Int.reduceMul, Int.reduceLT, Int.reduceLE, Int.reduceEq]
          refine (knows_A S).then ?_
          simp only [↓evPre, ↓evPreW, evPost, evPostW, ← List.map_take, ← List.map_drop, ↓reduceIte, reduceCtorEq, Nat.reduceEqDiff, forall_const, implies_true, Nat.reduceAdd, Nat.reduceSub, Nat.reduceMul, Nat.reduceLT, Nat.reduceLeDiff, Int.reduceToNat, Int.reduceAdd, Int.reduceSub, Int.reduceNeg, Int.reduceMul, Int.reduceLT, Int.reduceLE, Int.reduceEq]
        · obtain ⟨hmem, hbad⟩ := near_has g1 hi6 hs
          simp (disch := first | omega | (simp only [List.length_cons, List.length_nil, List.length_map, List.length_drop]; omega)) only [hlt, hab', h2', hi, la', c1, c2, hbs, a1, a2, hs, decide_true, wrap_i64, bi_rem, Int.tmod_eq_emod_of_nonneg, slS_str, ↓evPre, ↓evPreW, evPost, evPostW, ← List.map_take, ← List.map_drop, ↓reduceIte, reduceCtorEq, Nat.reduceEqDiff, forall_const, implies_true, Nat.reduceAdd, Nat.reduceSub, Nat.reduceMul, Nat.reduceLT, Nat.reduceLeDiff, Int.reduceToNat, Int.reduceAdd, Int.reduceSub, Int.reduceNeg, Int.reduceMul, Int.reduceLT, Int.reduceLE, Int.reduceEq]
          refine (near_A (put a i c) S).then ?_
          simp only [↓evPre, ↓evPreW, evPost, evPostW, ← List.map_take, ← List.map_drop, ↓reduceIte, reduceCtorEq, Nat.reduceEqDiff, forall_const, implies_true, Nat.reduceAdd, Nat.reduceSub, Nat.reduceMul, Nat.reduceLT, Nat.reduceLeDiff, Int.reduceToNat, Int.reduceAdd, Int.reduceSub, Int.reduceNeg, Int.reduceMul, Int.reduceLT, Int.reduceLE, Int.reduceEq]
          obtain ⟨l, hl⟩ : ∃ l, l = nearF (put a i c) := ⟨_, rfl⟩
          rw [← hl] at hmem ⊢
          refine loopA (ι := Nat) (fun k => [(9, .str a), (16, .str (put a i c)), (17, .bool ((l.take k).any fun t => decide (t = a))), (18, .sl 1 (sR l)), (19, .int .i64 k)]) (fun _ => S) (fun k => k ≤ l.length) (fun k => l.length - k) 0 (Nat.zero_le _) ?_ rfl ?_
          · simp only [↓evPre, ↓evPreW, evPost, evPostW, ← List.map_take, ← List.map_drop, ↓reduceIte, reduceCtorEq, Nat.reduceEqDiff, forall_const, implies_true, Nat.reduceAdd, Nat.reduceSub, Nat.reduceMul, Nat.reduceLT, Nat.reduceLeDiff, Int.reduceToNat, Int.reduceAdd, Int.reduceSub, Int.reduceNeg, Int.reduceMul, Int.reduceLT, Int.reduceLE, Int.reduceEq]
            simp
          · intro k hk
            have hll : l.length ≤ 6 := by
              rw [hl]
              unfold nearF
              split
              · rename_i hs6
                rw [fold_len]
                exact (cto_le hs6 6 (Nat.le_refl _)).1
              · simp
            by_cases hlt3 : (k : Int) < l.length
            · obtain ⟨t, ht⟩ : ∃ t, l[k]? = some t := ⟨l[k]'(by omega), List.getElem?_eq_getElem _⟩
              have htk : (l.take (k + 1)).any (fun t => decide (t = a)) = ((l.take k).any (fun t => decide (t = a)) || decide (t = a)) := by
                rw [List.take_add_one, ht, List.any_append]
                simp
              cases hany : (l.take k).any (fun t => decide (t = a))
              · rw [hany] at htk
                simp (disch := first | omega | (simp only [List.length_cons, List.length_nil, List.length_map, List.length_drop]; omega)) only [hlt3, sR_len, sR_get, ht, decide_true, wrap_i64, ↓evPre, ↓evPreW, evPost, evPostW, ← List.map_take, ← List.map_drop, ↓reduceIte, reduceCtorEq, Nat.reduceEqDiff, forall_const, implies_true, Nat.reduceAdd, Nat.reduceSub, Nat.reduceMul, Nat.reduceLT, Nat.reduceLeDiff, Int.reduceToNat, Int.reduceAdd, Int.reduceSub, Int.reduceNeg, Int.reduceMul, Int.reduceLT, Int.reduceLE, Int.reduceEq]
                exact ⟨k + 1, by omega, by omega, by rw [htk]; simp, by omega⟩
              · rw [hany] at htk
                simp (disch := first | omega | (simp only [List.length_cons, List.length_nil, List.length_map, List.length_drop]; omega)) only [hlt3, sR_len, sR_get, ht, decide_true, wrap_i64, ↓evPre, ↓evPreW, evPost, evPostW, ← List.map_take, ← List.map_drop, ↓reduceIte, reduceCtorEq, Nat.reduceEqDiff, forall_const, implies_true, Nat.reduceAdd, Nat.reduceSub, Nat.reduceMul, Nat.reduceLT, Nat.reduceLeDiff, Int.reduceToNat, Int.reduceAdd, Int.reduceSub, Int.reduceNeg, Int.reduceMul, Int.reduceLT, Int.reduceLE, Int.reduceEq]
                exact ⟨k + 1, by omega, by omega, by rw [htk]; simp, by omega⟩
            · have hall : (l.take k).any (fun t => decide (t = a)) = true := by
                rw [List.take_of_length_le (by omega), List.any_eq_true]
                exact ⟨a, hmem, decide_eq_true rfl⟩
              simp (disch := first | omega | (simp only [List.length_cons, List.length_nil, List.length_map, List.length_drop]; omega)) only [hlt3, sR_len, hall, wrap_i64, ↓evPre, ↓evPreW, evPost, evPostW, ← List.map_take, ← List.map_drop, ↓reduceIte, reduceCtorEq, Nat.reduceEqDiff, forall_const, implies_true, Nat.reduceAdd, Nat.reduceSub, Nat.reduceMul, Nat.reduceLT, Nat.reduceLeDiff, Int.reduceToNat, Int.reduceAdd, Int.reduceSub, Int.reduceNeg, Int.reduceMul, Int.reduceLT, Int.reduceLE, Int.reduceEq]
              refine (right_A (put a i c) S).then ?_
              simp only [hbad, ↓evPre, ↓evPreW, evPost, evPostW, ← List.map_take, ← List.map_drop, ↓reduceIte, reduceCtorEq, Nat.reduceEqDiff, forall_const, implies_true, Nat.reduceAdd, Nat.reduceSub, Nat.reduceMul, Nat.reduceLT, Nat.reduceLeDiff, Int.reduceToNat, Int.reduceAdd, Int.reduceSub, Int.reduceNeg, Int.reduceMul, Int.reduceLT, Int.reduceLE, Int.reduceEq]
              refine (knows_A S).then ?_
              simp only [↓evPre, ↓evPreW, evPost, evPostW, ← List.map_take, ← List.map_drop, ↓reduceIte, reduceCtorEq, Nat.reduceEqDiff, forall_const, implies_true, Nat.reduceAdd, Nat.reduceSub, Nat.reduceMul, Nat.reduceLT, Nat.reduceLeDiff, Int.reduceToNat, Int.reduceAdd, Int.reduceSub, Int.reduceNeg, Int.reduceMul, Int.reduceLT, Int.reduceLE, Int.reduceEq]
end Go.Proofs.Ytnepgfplikifjaa
