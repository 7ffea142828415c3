/- Places, cities, what is too big: taken over from component's texts by takecmp.py. -/
import Derived.Test.YtkdbghhdklfoiaaDoorRFc1
namespace Go.Proofs.YtkdbghhdklfoiaaDoor.Cm
open Go Go.AL
set_option linter.unusedSectionVars false
variable [Go.AL.Mode] [Go.AL.LooseM]
set_option linter.unusedSimpArgs false
set_option linter.unusedVariables false
namespace Ml
def aSl (l : List Apt) : V := .sl 5 (l.map aptR)
def dSl (l : List Dst) : V := .sl 3 (l.map dstR)
def noApt : List V := [.str [], .str [], .str [], .int .i64 0, .nilSl]
def findR (l : List Apt) (q : Apt → Bool) : V := match l.find? q with
  | some a => .tup [.agg (aptR a), .bool true]
  | none => .tup [.agg noApt, .bool false]
theorem find_at {l : List Apt} {q : Apt → Bool} {k : Nat} {a : Apt} (h : l.find? q = (l.drop k).find? q) (ha : l[k]? = some a) (hq : q a = true) : findR l q = .tup [.agg (aptR a), .bool true] := by
  have e : l.drop k = a :: l.drop (k + 1) := by
    obtain ⟨hlt, rfl⟩ := List.getElem?_eq_some_iff.1 ha
    exact List.drop_eq_getElem_cons hlt
  rw [findR, h, e, List.find?_cons_of_pos hq]
theorem find_next {l : List Apt} {q : Apt → Bool} {k : Nat} {a : Apt} (h : l.find? q = (l.drop k).find? q) (ha : l[k]? = some a) (hq : q a = false) : l.find? q = (l.drop (k + 1)).find? q := by
  have e : l.drop k = a :: l.drop (k + 1) := by
    obtain ⟨hlt, rfl⟩ := List.getElem?_eq_some_iff.1 ha
    exact List.drop_eq_getElem_cons hlt
  rw [h, e, List.find?_cons_of_neg (by simp [hq])]
theorem find_end {l : List Apt} {q : Apt → Bool} {k : Nat} (h : l.find? q = (l.drop k).find? q) (ha : l[k]? = none) : findR l q = .tup [.agg noApt, .bool false] := by
  rw [findR, h, List.drop_eq_nil_of_le (List.getElem?_eq_none_iff.1 ha)]
  rfl
theorem find_A (p : List Apt × List Dst) (c : Txt) (S : Store) (hl : p.1.length ≤ 1048576) : CallA Tryd.prog 82 [plV p, .str c] S fun r S' => r = findR p.1 (fun a => decide (a.code = c)) ∧ S' = S := by
  refine CallA.withNeat Tryd.func82 c4036 fun hn => ?_
  refine CallA.fin Tryd.func82 c4036 (Nat.le_of_ble_eq_true rfl) fun σ hσ => ?_
  simp (disch := first | omega | (simp only [lenT]; omega)) only [a4036, plV, aSl, dSl, evSt, ↓evPre, ↓evPreW, evPost, evPostW, evR, evU, seval]
  refine loopF (ι := Nat) (fun k => [(1, .str c), (4, .ptr S.length 0 0 0), (9, aSl p.1), (10, .int .i64 p.1.length), (11, .int .i64 k)]) (fun _ => S ++ [⟨0, some (.arr 130 5 [noApt])⟩]) (fun k => k ≤ p.1.length ∧ p.1.find? (fun a => decide (a.code = c)) = (p.1.drop k).find? (fun a => decide (a.code = c))) (fun k => p.1.length - k) (fun i hi => by rw [hσ]; simp) 0 ⟨Nat.zero_le _, rfl⟩ (.inl ⟨?_, rfl⟩) ?_
  · simp only [aSl, dSl, ↓evPre, ↓evPreW, evPost, evPostW, evR, evU, seval]
  · rintro k ⟨hk, hinv⟩
    cases hc : p.1[k]? with
    | none =>
      have hlt : ¬ ((k : Int) < p.1.length) := by rw [List.getElem?_eq_none_iff] at hc; omega
      rw [find_end hinv hc]
      simp (disch := first | omega | (simp only [lenT]; omega)) only [aSl, dSl, noApt, hlt, decide_false, evSt, ↓evPre, ↓evPreW, evPost, evPostW, evR, evU, seval]
      exact ⟨_, S, hn.fgt _, .imm rfl, Nat.le_refl _, rfl, rfl⟩
    | some a =>
      have hlt' := (List.getElem?_eq_some_iff.1 hc).1
      have hlt : (k : Int) < p.1.length := by omega
      by_cases h : a.code = c
      · have he : decide (a.code = c) = true := by simp [h]
        rw [find_at hinv hc he]
        simp (disch := first | omega | (simp only [lenT]; omega)) only [aSl, dSl, aptR, noApt, hc, hlt, he, decide_true, evSt, ↓evPre, ↓evPreW, evPost, evPostW, evR, evU, seval]
        exact ⟨_, S, hn.fgt _, .imm rfl, Nat.le_refl _, rfl, rfl⟩
      · simp (disch := first | omega | (simp only [lenT]; omega)) only [aSl, dSl, aptR, noApt, wrap_i64, hc, hlt, h, decide_true, decide_false, evSt, ↓evPre, ↓evPreW, evPost, evPostW, evR, evU, seval]
        refine ⟨k + 1, ⟨by omega, find_next hinv hc (by simp [h])⟩, by omega, back_under ?_ (by simp only [aSl, dSl, ↓evPre, ↓evPreW, evPost, evPostW, evR, evU, seval]; rfl) (by simp [V.under, aSl])⟩
        exact hn.fgtL (L := [_, _]) (L1 := [_]) ⟨rfl, ⟨_, rfl, .imm (fun r hr => by simp only [noApt, List.mem_singleton] at hr; subst hr; exact ⟨rfl, rfl⟩)⟩, trivial⟩
theorem town_A (p : List Apt × List Dst) (c : Txt) (S : Store) (hl : p.1.length ≤ 1048576) : CallA Tryd.prog 83 [plV p, .str c] S fun r S' => r = findR p.1 (fun a => decide (a.city = c)) ∧ S' = S := by
  refine CallA.withNeat Tryd.func83 c4037 fun hn => ?_
  refine CallA.fin Tryd.func83 c4037 (Nat.le_of_ble_eq_true rfl) fun σ hσ => ?_
  simp (disch := first | omega | (simp only [lenT]; omega)) only [a4037, plV, aSl, dSl, evSt, ↓evPre, ↓evPreW, evPost, evPostW, evR, evU, seval]
  refine loopF (ι := Nat) (fun k => [(1, .str c), (4, .ptr S.length 0 0 0), (9, aSl p.1), (10, .int .i64 p.1.length), (11, .int .i64 k)]) (fun _ => S ++ [⟨0, some (.arr 130 5 [noApt])⟩]) (fun k => k ≤ p.1.length ∧ p.1.find? (fun a => decide (a.city = c)) = (p.1.drop k).find? (fun a => decide (a.city = c))) (fun k => p.1.length - k) (fun i hi => by rw [hσ]; simp) 0 ⟨Nat.zero_le _, rfl⟩ (.inl ⟨?_, rfl⟩) ?_
  · simp only [aSl, dSl, ↓evPre, ↓evPreW, evPost, evPostW, evR, evU, seval]
  · rintro k ⟨hk, hinv⟩
    cases hc : p.1[k]? with
    | none =>
      have hlt : ¬ ((k : Int) < p.1.length) := by rw [List.getElem?_eq_none_iff] at hc; omega
      rw [find_end hinv hc]
      simp (disch := first | omega | (simp only [lenT]; omega)) only [aSl, dSl, noApt, hlt, decide_false, evSt, ↓evPre, ↓evPreW, evPost, evPostW, evR, evU, seval]
      exact ⟨_, S, hn.fgt _, .imm rfl, Nat.le_refl _, rfl, rfl⟩
    | some a =>
      have hlt' := (List.getElem?_eq_some_iff.1 hc).1
      have hlt : (k : Int) < p.1.length := by omega
      by_cases h : a.city = c
      · have he : decide (a.city = c) = true := by simp [h]
        rw [find_at hinv hc he]
        simp (disch := first | omega | (simp only [lenT]; omega)) only [aSl, dSl, aptR, noApt, hc, hlt, he, decide_true, evSt, ↓evPre, ↓evPreW, evPost, evPostW, evR, evU, seval]
        exact ⟨_, S, hn.fgt _, .imm rfl, Nat.le_refl _, rfl, rfl⟩
      · simp (disch := first | omega | (simp only [lenT]; omega)) only [aSl, dSl, aptR, noApt, wrap_i64, hc, hlt, h, decide_true, decide_false, evSt, ↓evPre, ↓evPreW, evPost, evPostW, evR, evU, seval]
        refine ⟨k + 1, ⟨by omega, find_next hinv hc (by simp [h])⟩, by omega, back_under ?_ (by simp only [aSl, dSl, ↓evPre, ↓evPreW, evPost, evPostW, evR, evU, seval]; rfl) (by simp [V.under, aSl])⟩
        exact hn.fgtL (L := [_, _]) (L1 := [_]) ⟨rfl, ⟨_, rfl, .imm (fun r hr => by simp only [noApt, List.mem_singleton] at hr; subst hr; exact ⟨rfl, rfl⟩)⟩, trivial⟩
theorem rfind_A (p : List Apt × List Dst) (c : Txt) (S : Store) (hl : p.1.length ≤ 1048576) : CallA Tryd.prog 84 [plV p, .str c] S fun r S' => r = findR p.1 (fun a => decide (a.code = c)) ∧ S' = S := by
  refine CallA.withNeat Tryd.func84 c4038 fun hn => ?_
  refine CallA.fin Tryd.func84 c4038 (Nat.le_of_ble_eq_true rfl) fun σ hσ => ?_
  simp (disch := first | omega | (simp only [lenT]; omega)) only [a4038, plV, aSl, dSl, evSt, ↓evPre, ↓evPreW, evPost, evPostW, evR, evU, seval]
  refine loopF (ι := Nat) (fun k => [(1, .str c), (2, .cptr [aSl p.1, dSl p.2]), (4, .ptr S.length 0 0 0), (6, .int .i64 k)]) (fun _ => S ++ [⟨0, some (.arr 130 5 [noApt])⟩]) (fun k => k ≤ p.1.length ∧ p.1.find? (fun a => decide (a.code = c)) = (p.1.drop k).find? (fun a => decide (a.code = c))) (fun k => p.1.length - k) (fun i hi => by rw [hσ]; simp) 0 ⟨Nat.zero_le _, rfl⟩ (.inl ⟨?_, rfl⟩) ?_
  · simp only [aSl, dSl, ↓evPre, ↓evPreW, evPost, evPostW, evR, evU, seval]
  · rintro k ⟨hk, hinv⟩
    cases hc : p.1[k]? with
    | none =>
      have hlt : ¬ ((k : Int) < p.1.length) := by rw [List.getElem?_eq_none_iff] at hc; omega
      rw [find_end hinv hc]
      simp (disch := first | omega | (simp only [lenT]; omega)) only [aSl, dSl, noApt, hlt, decide_false, evSt, ↓evPre, ↓evPreW, evPost, evPostW, evR, evU, seval]
      exact ⟨_, S, hn.fgt _, .imm rfl, Nat.le_refl _, rfl, rfl⟩
    | some a =>
      have hlt' := (List.getElem?_eq_some_iff.1 hc).1
      have hlt : (k : Int) < p.1.length := by omega
      by_cases h : a.code = c
      · have he : decide (a.code = c) = true := by simp [h]
        rw [find_at hinv hc he]
        simp (disch := first | omega | (simp only [lenT]; omega)) only [aSl, dSl, aptR, noApt, hc, hlt, he, decide_true, evSt, ↓evPre, ↓evPreW, evPost, evPostW, evR, evU, seval]
        exact ⟨_, S, hn.fgt _, .imm rfl, Nat.le_refl _, rfl, rfl⟩
      · simp (disch := first | omega | (simp only [lenT]; omega)) only [aSl, dSl, aptR, noApt, wrap_i64, hc, hlt, h, decide_true, decide_false, evSt, ↓evPre, ↓evPreW, evPost, evPostW, evR, evU, seval]
        exact ⟨k + 1, ⟨by omega, find_next hinv hc (by simp [h])⟩, by omega, .inl ⟨by simp only [aSl, dSl, ↓evPre, ↓evPreW, evPost, evPostW, evR, evU, seval]; rfl, rfl⟩⟩
theorem rtown_A (p : List Apt × List Dst) (c : Txt) (S : Store) (hl : p.1.length ≤ 1048576) : CallA Tryd.prog 80 [plV p, .str c] S fun r S' => r = findR p.1 (fun a => decide (a.city = c)) ∧ S' = S := by
  refine CallA.withNeat Tryd.func80 c4039 fun hn => ?_
  refine CallA.fin Tryd.func80 c4039 (Nat.le_of_ble_eq_true rfl) fun σ hσ => ?_
  simp (disch := first | omega | (simp only [lenT]; omega)) only [a4039, plV, aSl, dSl, evSt, ↓evPre, ↓evPreW, evPost, evPostW, evR, evU, seval]
  refine loopF (ι := Nat) (fun k => [(1, .str c), (2, .cptr [aSl p.1, dSl p.2]), (4, .ptr S.length 0 0 0), (6, .int .i64 k)]) (fun _ => S ++ [⟨0, some (.arr 130 5 [noApt])⟩]) (fun k => k ≤ p.1.length ∧ p.1.find? (fun a => decide (a.city = c)) = (p.1.drop k).find? (fun a => decide (a.city = c))) (fun k => p.1.length - k) (fun i hi => by rw [hσ]; simp) 0 ⟨Nat.zero_le _, rfl⟩ (.inl ⟨?_, rfl⟩) ?_
  · simp only [aSl, dSl, ↓evPre, ↓evPreW, evPost, evPostW, evR, evU, seval]
  · rintro k ⟨hk, hinv⟩
    cases hc : p.1[k]? with
    | none =>
      have hlt : ¬ ((k : Int) < p.1.length) := by rw [List.getElem?_eq_none_iff] at hc; omega
      rw [find_end hinv hc]
      simp (disch := first | omega | (simp only [lenT]; omega)) only [aSl, dSl, noApt, hlt, decide_false, evSt, ↓evPre, ↓evPreW, evPost, evPostW, evR, evU, seval]
      exact ⟨_, S, hn.fgt _, .imm rfl, Nat.le_refl _, rfl, rfl⟩
    | some a =>
      have hlt' := (List.getElem?_eq_some_iff.1 hc).1
      have hlt : (k : Int) < p.1.length := by omega
      by_cases h : a.city = c
      · have he : decide (a.city = c) = true := by simp [h]
        rw [find_at hinv hc he]
        simp (disch := first | omega | (simp only [lenT]; omega)) only [aSl, dSl, aptR, noApt, hc, hlt, he, decide_true, evSt, ↓evPre, ↓evPreW, evPost, evPostW, evR, evU, seval]
        exact ⟨_, S, hn.fgt _, .imm rfl, Nat.le_refl _, rfl, rfl⟩
      · simp (disch := first | omega | (simp only [lenT]; omega)) only [aSl, dSl, aptR, noApt, wrap_i64, hc, hlt, h, decide_true, decide_false, evSt, ↓evPre, ↓evPreW, evPost, evPostW, evR, evU, seval]
        exact ⟨k + 1, ⟨by omega, find_next hinv hc (by simp [h])⟩, by omega, .inl ⟨by simp only [aSl, dSl, ↓evPre, ↓evPreW, evPost, evPostW, evR, evU, seval]; rfl, rfl⟩⟩
def cityF (l : List Apt) (c : Txt) : Txt := match l.find? fun a => decide (a.code = c) with
  | some a => a.city
  | none => if (l.find? fun a => decide (a.city = c)).isSome then c else []
theorem city_A (p : List Apt × List Dst) (c : Txt) (S : Store) (hl : p.1.length ≤ 1048576) : CallA Tryd.prog 50 [plV p, .str c] S fun r S' => r = .str (cityF p.1 c) ∧ S' = S := by
  refine CallA.withNeat Tryd.func50 c4027 fun hn => ?_
  refine CallA.fin Tryd.func50 c4027 (Nat.le_of_ble_eq_true rfl) fun σ hσ => ?_
  simp (disch := first | omega | (simp only [lenT]; omega)) only [a4027, plV, aSl, dSl, evSt, ↓evPre, ↓evPreW, evPost, evPostW, evR, evU, seval]
  refine (find_A p c S hl).then ?_
  unfold findR cityF
  cases h1 : p.1.find? fun a => decide (a.code = c) with
  | some a =>
    simp (disch := first | omega | (simp only [lenT]; omega)) only [aptR, evSt, ↓evPre, ↓evPreW, evPost, evPostW, evR, evU, seval]
    exact ⟨_, S, hn.fgt _, .imm rfl, Nat.le_refl _, rfl, rfl⟩
  | none =>
    simp (disch := first | omega | (simp only [lenT]; omega)) only [noApt, evSt, ↓evPre, ↓evPreW, evPost, evPostW, evR, evU, seval]
    refine (town_A p c _ hl).then ?_
    unfold findR
    cases h2 : p.1.find? fun a => decide (a.city = c) with
    | some a =>
      simp (disch := first | omega | (simp only [lenT]; omega)) only [aptR, Option.isSome_some, if_true, evSt, ↓evPre, ↓evPreW, evPost, evPostW, evR, evU, seval]
      exact ⟨_, S, hn.fgt _, .imm rfl, Nat.le_refl _, rfl, rfl⟩
    | none =>
      simp (disch := first | omega | (simp only [lenT]; omega)) only [noApt, Option.isSome_none, Bool.false_eq_true, if_false, evSt, ↓evPre, ↓evPreW, evPost, evPostW, evR, evU, seval]
      exact ⟨_, S, hn.fgt _, .imm rfl, Nat.le_refl _, rfl, rfl⟩
theorem rcity_A (p : List Apt × List Dst) (c : Txt) (S : Store) (hl : p.1.length ≤ 1048576) : CallA Tryd.prog 51 [plV p, .str c] S fun r S' => r = .str (cityF p.1 c) ∧ S' = S := by
  refine CallA.withNeat Tryd.func51 c4030 fun hn => ?_
  refine CallA.fin Tryd.func51 c4030 (Nat.le_of_ble_eq_true rfl) fun σ hσ => ?_
  simp (disch := first | omega | (simp only [lenT]; omega)) only [a4030, plV, aSl, dSl, evSt, ↓evPre, ↓evPreW, evPost, evPostW, evR, evU, seval]
  refine (rfind_A p c S hl).then ?_
  unfold findR cityF
  cases h1 : p.1.find? fun a => decide (a.code = c) with
  | some a =>
    simp (disch := first | omega | (simp only [lenT]; omega)) only [aptR, evSt, ↓evPre, ↓evPreW, evPost, evPostW, evR, evU, seval]
    exact ⟨_, S, hn.fgt _, .imm rfl, Nat.le_refl _, rfl, rfl⟩
  | none =>
    simp (disch := first | omega | (simp only [lenT]; omega)) only [noApt, evSt, ↓evPre, ↓evPreW, evPost, evPostW, evR, evU, seval]
    refine (rtown_A p c _ hl).then ?_
    unfold findR
    cases h2 : p.1.find? fun a => decide (a.city = c) with
    | some a =>
      simp (disch := first | omega | (simp only [lenT]; omega)) only [aptR, Option.isSome_some, if_true, evSt, ↓evPre, ↓evPreW, evPost, evPostW, evR, evU, seval]
      exact ⟨_, S, hn.fgt _, .imm rfl, Nat.le_refl _, rfl, rfl⟩
    | none =>
      simp (disch := first | omega | (simp only [lenT]; omega)) only [noApt, Option.isSome_none, Bool.false_eq_true, if_false, evSt, ↓evPre, ↓evPreW, evPost, evPostW, evR, evU, seval]
      exact ⟨_, S, hn.fgt _, .imm rfl, Nat.le_refl _, rfl, rfl⟩
end Ml
def citiesF (p : Pls) : List Wnt → List Txt
  | [] => []
  | w :: l => Ml.cityF p.1 w.s.f :: (w :: l).map fun w => Ml.cityF p.1 w.s.t
structure Tar where
  fares : List Fr
  rules : List Rul
  routs : List Rou
theorem mx (n : Nat) (h : n ≤ maxLen) : n ≤ 9223372036854775807 := by unfold maxLen at h; omega
def tarV (t : Tar) (tx : List (List V)) : List V := [.sl 9 (t.fares.map frR), .sl 15 (t.rules.map rulR), .sl 3 (t.routs.map rouR), .sl 7 tx]
theorem app_at0 {S T : Store} {n : Nat} {q : TypeId} {sz : Nat} {r0 r : List V} {rs : List (List V)} {K : V → Store → Prop} (hn : rs.length = n) (h : n < 1000000) :
    appK q sz (.msl S.length n 0 (n + 1)) (some (sz, [r])) (S ++ ⟨n, some (.arr q sz (r0 :: rs))⟩ :: T) K = K (.msl S.length (n + 1) 0 (n + 2)) (S ++ ⟨n + 1, some (.arr q sz (r0 :: (rs ++ [r])))⟩ :: T) := by
  subst hn
  rw [app_msl, ob_app0, ob_head, appO_some, se_app0]
  simp only [List.length_cons, List.length_append, List.length_nil, List.set_cons_zero, List.set_cons_succ, List.cons_append]
  simp [roomA]
  intro _
  omega
theorem app_at1 {S T : Store} {x0 : AL.Obj} {n : Nat} {q : TypeId} {sz : Nat} {r0 r : List V} {rs : List (List V)} {K : V → Store → Prop} (hn : rs.length = n) (h : n < 1000000) :
    appK q sz (.msl (S.length + 1) n 0 (n + 1)) (some (sz, [r])) (S ++ x0 :: ⟨n, some (.arr q sz (r0 :: rs))⟩ :: T) K = K (.msl (S.length + 1) (n + 1) 0 (n + 2)) (S ++ x0 :: ⟨n + 1, some (.arr q sz (r0 :: (rs ++ [r])))⟩ :: T) := by
  subst hn
  rw [app_msl, ob_app, ob_cons, ob_head, appO_some, se_app]
  simp only [List.length_cons, List.length_append, List.length_nil, List.set_cons_zero, List.set_cons_succ, List.cons_append]
  simp [roomA]
  intro _
  omega
theorem fgt_dk {S T : Store} (hn : Neat S) {v ver : Nat} {x : Option Cont} {t : TypeId} {sz : Nat} {rows : List (List V)} (hr : ∀ r ∈ rows, r.length = sz ∧ V.allImm r = true) : Fgt (S ++ ⟨v, x⟩ :: ⟨ver, some (.arr t sz rows)⟩ :: T) (S ++ ⟨v, none⟩ :: ⟨ver, some (.arr t sz rows)⟩ :: []) :=
  hn.fgtL (L := _ :: _ :: T) (L1 := [_, _]) ⟨rfl, trivial, rfl, ⟨_, rfl, .imm hr⟩, fgtL_nil⟩
theorem tx_imm (l : List Txt) : ∀ r ∈ l.map txR, r.length = 1 ∧ V.allImm r = true := fun r hr => by
  obtain ⟨x, _, rfl⟩ := List.mem_map.1 hr
  exact ⟨rfl, rfl⟩
theorem cs_len (p : Pls) (l : List Wnt) : l ≠ [] → (citiesF p l).length = l.length + 1 := by
  cases l with
  | nil => exact fun h => absurd rfl h
  | cons w r => intro _; simp [citiesF]
set_option maxHeartbeats 2000000 in
theorem cities_A (p : Pls) (hp : p.1.length ≤ 1000) (l : List Wnt) (hl : l.length ≤ 8) (S : Store) : CallA Tryd.prog 24 [plV p, .sl 8 (l.map wntR)] S fun v S' => v = .sl 1 ((citiesF p l).map txR) ∧ S' = S := by
  refine CallA.withNeat Tryd.func24 c5008 fun hn => ?_
  refine CallA.fin Tryd.func24 c5008 (Nat.le_of_ble_eq_true rfl) fun σ hσ => ?_
  have cz := fun c S => Ml.city_A p c S (by omega)
  simp only [plV] at cz
  simp (disch := first | omega | (simp only [lenT]; omega)) only [a5008, plV, evSt, ↓evPre, ↓evPreW, evPost, evPostW, evR, evU, seval]
  obtain ⟨w0, hw0⟩ : ∃ w0 : Wnt, ∀ w r, l = w :: r → w0 = w := by
    cases l with
    | nil => exact ⟨⟨⟨[], 0, 0, [], [], 0, 0⟩, []⟩, fun w r h => by cases h⟩
    | cons w r => exact ⟨w, fun w' r' h => by cases h; rfl⟩
  refine loopF (ι := Nat) (fun i => match i with | 0 => [(2, .cptr [.sl 5 (p.1.map aptR), .sl 3 (p.2.map dstR)]), (5, .nilSl), (8, .sl 8 (l.map wntR)), (9, .int .i64 l.length), (10, .int .i64 (0 : Nat))] | j + 1 => [(2, .cptr [.sl 5 (p.1.map aptR), .sl 3 (p.2.map dstR)]), (5, .msl (S.length + 1) (j + 1) 0 (j + 2)), (8, .sl 8 (l.map wntR)), (9, .int .i64 l.length), (10, .int .i64 ((j + 1 : Nat) : Int))])
    (fun i => match i with | 0 => S | j + 1 => S ++ ⟨0, none⟩ :: ⟨j + 1, some (.arr 9 1 (txR (Ml.cityF p.1 w0.s.f) :: ((l.take (j + 1)).map fun w => txR (Ml.cityF p.1 w.s.t))))⟩ :: []) (fun i => i ≤ l.length) (fun i => l.length - i) (fun i hi => by rw [hσ]; cases i <;> simp) 0 (Nat.zero_le _) (.inl ⟨?_, rfl⟩) ?_
  · simp only [↓evPre, ↓evPreW, evPost, evPostW, evR, evU, seval]
    try rfl
  rintro i hi
  cases hc : l[i]? with
  | none =>
    have hge : l.length ≤ i := List.getElem?_eq_none_iff.1 hc
    have hlt : ¬ ((i : Int) < l.length) := by omega
    have hil : i = l.length := by omega
    cases i with
    | zero =>
      have hnil : l = [] := List.length_eq_zero_iff.1 hil.symm
      have hlt0 : ¬ ((0 : Int) < l.length) := by omega
      simp (disch := first | omega | (simp only [lenT]; omega)) only [dF hlt0, evSt, ↓evPre, ↓evPreW, evPost, evPostW, evR, evU, seval]
      refine ⟨.sl 1 ((citiesF p l).map txR), S, hn.self, ?_, Nat.le_refl _, rfl, rfl⟩
      rw [hnil]
      exact .nil
    | succ j =>
      simp (disch := first | omega | (simp only [lenT]; omega)) only [dF hlt, evSt, ↓evPre, ↓evPreW, evPost, evPostW, evR, evU, seval]
      have hcs : citiesF p l = Ml.cityF p.1 w0.s.f :: (l.take (j + 1)).map fun w => Ml.cityF p.1 w.s.t := by
        cases l with
        | nil => simp at hil
        | cons w r => rw [hw0 w r rfl, List.take_of_length_le (by omega), citiesF]
      have him := tx_imm (citiesF p l)
      have hrows : (citiesF p l).map txR = txR (Ml.cityF p.1 w0.s.f) :: ((l.take (j + 1)).map fun w => txR (Ml.cityF p.1 w.s.t)) := by rw [hcs, List.map_cons, List.map_map]; rfl
      have hlen := cs_len p l (by intro h; rw [h] at hil; simp at hil)
      rw [hrows] at him
      refine ⟨.sl 1 ((citiesF p l).map txR), S, hn.fgt _, ?_, Nat.le_refl _, rfl, rfl⟩
      rw [hrows]
      refine .sl (t := 9) (by omega) (by rw [ob_app, ob_cons, ob_head]) (by simp; omega) ?_
      exact him
  | some y =>
    have hlt' := (List.getElem?_eq_some_iff.1 hc).1
    have hlt : ((i : Int) < l.length) := by omega
    have hk1 : (i : Int) + 1 = ((i + 1 : Nat) : Int) := by omega
    cases i with
    | zero =>
      have hy : w0 = y := by
        cases l with
        | nil => simp at hc
        | cons w r => simp only [List.getElem?_cons_zero, Option.some.injEq] at hc; rw [hw0 w r rfl, hc]
      subst hy
      have htk : (l.take (0 + 1)).map (fun w => txR (Ml.cityF p.1 w.s.t)) = [txR (Ml.cityF p.1 w0.s.t)] := by rw [take_at hc]; rfl
      obtain ⟨⟨s1, s2, s3, s4, s5, s6, s7⟩, s8⟩ := w0
      have hlt0 : ((0 : Int) < l.length) := by omega
      simp (disch := first | omega | (simp only [lenT]; omega)) only [dT hlt0, hc, wntR, sgR, List.cons_append, List.nil_append, evSt, ↓evPre, ↓evPreW, evPost, evPostW, evR, evU, seval]
      refine (cz _ _).then ?_
      simp (disch := first | omega | (simp only [lenT]; omega)) only [roomA, wntR, sgR, hc, List.cons_append, List.nil_append, evSt, ↓evPre, ↓evPreW, evPost, evPostW, evR, evU, seval]
      refine (cz _ _).then ?_
      simp (disch := first | omega | (simp only [lenT]; omega)) only [roomA, wrap_i64, hk1, evSt, ↓evPre, ↓evPreW, evPost, evPostW, evR, evU, seval]
      refine ⟨0 + 1, by omega, by omega, ?_⟩
      simp only [htk]
      exact back_under (fgt_dk hn (tx_imm [_, _])) (by simp only [↓evPre, ↓evPreW, evPost, evPostW, evR, evU, seval]; try rfl) (by simp [V.under, V.allUnder])
    | succ j =>
      have htk : (l.take (j + 1 + 1)).map (fun w => txR (Ml.cityF p.1 w.s.t)) = (l.take (j + 1)).map (fun w => txR (Ml.cityF p.1 w.s.t)) ++ [txR (Ml.cityF p.1 y.s.t)] := by rw [take_at hc]; simp
      have hjl : ((l.take (j + 1)).map (fun w => txR (Ml.cityF p.1 w.s.t))).length = j + 1 := by simp; omega
      have h0 : ¬ ((j + 1 : Nat) : Int) = 0 := by omega
      obtain ⟨⟨s1, s2, s3, s4, s5, s6, s7⟩, s8⟩ := y
      simp (disch := first | omega | (simp only [lenT]; omega)) only [dT hlt, dF h0, hc, wntR, sgR, List.cons_append, List.nil_append, evSt, ↓evPre, ↓evPreW, evPost, evPostW, evR, evU, seval]
      refine (cz _ _).then ?_
      simp (disch := first | omega | (simp only [lenT]; omega)) only [wrap_i64, hk1, app_at1 hjl (by omega), evSt, ↓evPre, ↓evPreW, evPost, evPostW, evR, evU, seval]
      refine ⟨j + 1 + 1, by omega, by omega, ?_⟩
      simp only [htk]
      have him := tx_imm (Ml.cityF p.1 w0.s.f :: ((l.take (j + 1)).map (fun w => Ml.cityF p.1 w.s.t) ++ [Ml.cityF p.1 s5]))
      simp only [List.map_cons, List.map_append, List.map_map, List.map_nil] at him
      exact back_under (fgt_dk hn him) (by simp only [↓evPre, ↓evPreW, evPost, evPostW, evR, evU, seval]; try rfl) (by simp [V.under, V.allUnder])
set_option maxHeartbeats 2000000 in
theorem rcities_A (p : Pls) (hp : p.1.length ≤ 1000) (l : List Wnt) (hl : l.length ≤ 8) (S : Store) : CallA Tryd.prog 25 [plV p, .sl 8 (l.map wntR)] S fun v S' => v = .sl 1 ((citiesF p l).map txR) ∧ S' = S := by
  refine CallA.withNeat Tryd.func25 c5019 fun hn => ?_
  refine CallA.fin Tryd.func25 c5019 (Nat.le_of_ble_eq_true rfl) fun σ hσ => ?_
  have cz := fun c S => Ml.rcity_A p c S (by omega)
  simp only [plV] at cz
  simp (disch := first | omega | (simp only [lenT]; omega)) only [a5019, plV, evSt, ↓evPre, ↓evPreW, evPost, evPostW, evR, evU, seval]
  obtain ⟨w0, hw0⟩ : ∃ w0 : Wnt, ∀ w r, l = w :: r → w0 = w := by
    cases l with
    | nil => exact ⟨⟨⟨[], 0, 0, [], [], 0, 0⟩, []⟩, fun w r h => by cases h⟩
    | cons w r => exact ⟨w, fun w' r' h => by cases h; rfl⟩
  refine loopF (ι := Nat) (fun i => match i with | 0 => [(1, .sl 8 (l.map wntR)), (2, .cptr [.sl 5 (p.1.map aptR), .sl 3 (p.2.map dstR)]), (5, .nilSl), (6, .int .i64 (0 : Nat))] | j + 1 => [(1, .sl 8 (l.map wntR)), (2, .cptr [.sl 5 (p.1.map aptR), .sl 3 (p.2.map dstR)]), (5, .msl S.length (j + 1) 0 (j + 2)), (6, .int .i64 ((j + 1 : Nat) : Int))])
    (fun i => match i with | 0 => S | j + 1 => S ++ ⟨j + 1, some (.arr 9 1 (txR (Ml.cityF p.1 w0.s.f) :: ((l.take (j + 1)).map fun w => txR (Ml.cityF p.1 w.s.t))))⟩ :: []) (fun i => i ≤ l.length) (fun i => l.length - i) (fun i hi => by rw [hσ]; cases i <;> simp) 0 (Nat.zero_le _) (.inl ⟨?_, rfl⟩) ?_
  · simp only [↓evPre, ↓evPreW, evPost, evPostW, evR, evU, seval]
    try rfl
  rintro i hi
  cases hc : l[i]? with
  | none =>
    have hge : l.length ≤ i := List.getElem?_eq_none_iff.1 hc
    have hlt : ¬ ((i : Int) < l.length) := by omega
    have hil : i = l.length := by omega
    cases i with
    | zero =>
      have hnil : l = [] := List.length_eq_zero_iff.1 hil.symm
      have hlt0 : ¬ ((0 : Int) < l.length) := by omega
      simp (disch := first | omega | (simp only [lenT]; omega)) only [dF hlt0, evSt, ↓evPre, ↓evPreW, evPost, evPostW, evR, evU, seval]
      refine ⟨.sl 1 ((citiesF p l).map txR), S, hn.self, ?_, Nat.le_refl _, rfl, rfl⟩
      rw [hnil]
      exact .nil
    | succ j =>
      simp (disch := first | omega | (simp only [lenT]; omega)) only [dF hlt, evSt, ↓evPre, ↓evPreW, evPost, evPostW, evR, evU, seval]
      have hcs : citiesF p l = Ml.cityF p.1 w0.s.f :: (l.take (j + 1)).map fun w => Ml.cityF p.1 w.s.t := by
        cases l with
        | nil => simp at hil
        | cons w r => rw [hw0 w r rfl, List.take_of_length_le (by omega), citiesF]
      have him := tx_imm (citiesF p l)
      have hrows : (citiesF p l).map txR = txR (Ml.cityF p.1 w0.s.f) :: ((l.take (j + 1)).map fun w => txR (Ml.cityF p.1 w.s.t)) := by rw [hcs, List.map_cons, List.map_map]; rfl
      have hlen := cs_len p l (by intro h; rw [h] at hil; simp at hil)
      rw [hrows] at him
      refine ⟨.sl 1 ((citiesF p l).map txR), S, hn.fgt _, ?_, Nat.le_refl _, rfl, rfl⟩
      rw [hrows]
      refine .sl (t := 9) (Nat.le_refl _) (by rw [ob_app0, ob_head]) (by simp; omega) ?_
      exact him
  | some y =>
    have hlt' := (List.getElem?_eq_some_iff.1 hc).1
    have hlt : ((i : Int) < l.length) := by omega
    have hk1 : (i : Int) + 1 = ((i + 1 : Nat) : Int) := by omega
    cases i with
    | zero =>
      have hy : w0 = y := by
        cases l with
        | nil => simp at hc
        | cons w r => simp only [List.getElem?_cons_zero, Option.some.injEq] at hc; rw [hw0 w r rfl, hc]
      subst hy
      have htk : (l.take (0 + 1)).map (fun w => txR (Ml.cityF p.1 w.s.t)) = [txR (Ml.cityF p.1 w0.s.t)] := by rw [take_at hc]; rfl
      obtain ⟨⟨s1, s2, s3, s4, s5, s6, s7⟩, s8⟩ := w0
      have hlt0 : ((0 : Int) < l.length) := by omega
      simp (disch := first | omega | (simp only [lenT]; omega)) only [dT hlt0, hc, wntR, sgR, List.cons_append, List.nil_append, evSt, ↓evPre, ↓evPreW, evPost, evPostW, evR, evU, seval]
      refine (cz _ _).then ?_
      simp (disch := first | omega | (simp only [lenT]; omega)) only [roomA, wntR, sgR, hc, List.cons_append, List.nil_append, evSt, ↓evPre, ↓evPreW, evPost, evPostW, evR, evU, seval]
      refine (cz _ _).then ?_
      simp (disch := first | omega | (simp only [lenT]; omega)) only [roomA, wrap_i64, hk1, evSt, ↓evPre, ↓evPreW, evPost, evPostW, evR, evU, seval]
      refine ⟨0 + 1, by omega, by omega, ?_⟩
      simp only [htk]
      exact .inl ⟨by simp only [↓evPre, ↓evPreW, evPost, evPostW, evR, evU, seval]; try rfl, rfl⟩
    | succ j =>
      have htk : (l.take (j + 1 + 1)).map (fun w => txR (Ml.cityF p.1 w.s.t)) = (l.take (j + 1)).map (fun w => txR (Ml.cityF p.1 w.s.t)) ++ [txR (Ml.cityF p.1 y.s.t)] := by rw [take_at hc]; simp
      have hjl : ((l.take (j + 1)).map (fun w => txR (Ml.cityF p.1 w.s.t))).length = j + 1 := by simp; omega
      have h0 : ¬ ((j + 1 : Nat) : Int) = 0 := by omega
      obtain ⟨⟨s1, s2, s3, s4, s5, s6, s7⟩, s8⟩ := y
      simp (disch := first | omega | (simp only [lenT]; omega)) only [dT hlt, dF h0, hc, wntR, sgR, List.cons_append, List.nil_append, evSt, ↓evPre, ↓evPreW, evPost, evPostW, evR, evU, seval]
      refine (cz _ _).then ?_
      simp (disch := first | omega | (simp only [lenT]; omega)) only [wrap_i64, hk1, app_at0 hjl (by omega), evSt, ↓evPre, ↓evPreW, evPost, evPostW, evR, evU, seval]
      refine ⟨j + 1 + 1, by omega, by omega, ?_⟩
      simp only [htk]
      exact .inl ⟨by simp only [↓evPre, ↓evPreW, evPost, evPostW, evR, evU, seval]; try rfl, rfl⟩
def WOk (l : List Wnt) : Prop := ∀ w ∈ l, (0 ≤ w.s.dep ∧ w.s.dep < 52596000) ∧ 0 ≤ w.s.arr ∧ w.s.arr < 52596000
structure Sml (p : Pls) (t : Tar) (l : List Wnt) : Prop where
  apts : p.1.length ≤ 20
  dsts : p.2.length ≤ 40
  fares : t.fares.length ≤ 40
  rules : t.rules.length ≤ 10
  routs : t.routs.length ≤ 10
  segs : l.length ≤ 8
  w : WOk l
set_option maxHeartbeats 4000000 in
set_option maxRecDepth 10000 in
theorem big_A (p : Pls) (t : Tar) (tx : List (List V)) (l : List Wnt) (S : Store) : CallA Tryd.prog 20 [plV p, .agg (tarV t tx), .sl 8 (l.map wntR)] S fun v S' => ∃ b, v = .bool b ∧ (b = false → Sml p t l) ∧ S' = S := by
  refine CallA.withNeat Tryd.func20 c5026 fun hn => ?_
  refine (CallA.fin Tryd.func20 c5026 (R := fun v S' => (∃ b, v = .bool b ∧ (b = false → Sml p t l)) ∧ S' = S) (Nat.le_of_ble_eq_true rfl) fun σ hσ => ?_).mono fun v S' ⟨⟨b, h1, h2⟩, h3⟩ => ⟨b, h1, h2, h3⟩
  by_cases h0 : (20 : Int) < (p.1.length : Nat)
  · simp (disch := first | omega | (simp only [lenT]; omega)) only [a5026, plV, tarV, dT h0, evSt, ↓evPre, ↓evPreW, evPost, evPostW, evR, evU, seval]
    exact ⟨_, S, hn.self, .imm rfl, Nat.le_refl _, ⟨_, rfl, fun h => by cases h⟩, rfl⟩
  by_cases h1 : (40 : Int) < (p.2.length : Nat)
  · simp (disch := first | omega | (simp only [lenT]; omega)) only [a5026, plV, tarV, dF h0, dT h1, evSt, ↓evPre, ↓evPreW, evPost, evPostW, evR, evU, seval]
    exact ⟨_, S, hn.self, .imm rfl, Nat.le_refl _, ⟨_, rfl, fun h => by cases h⟩, rfl⟩
  by_cases h2 : (40 : Int) < (t.fares.length : Nat)
  · simp (disch := first | omega | (simp only [lenT]; omega)) only [a5026, plV, tarV, dF h0, dF h1, dT h2, evSt, ↓evPre, ↓evPreW, evPost, evPostW, evR, evU, seval]
    exact ⟨_, S, hn.self, .imm rfl, Nat.le_refl _, ⟨_, rfl, fun h => by cases h⟩, rfl⟩
  by_cases h3 : (10 : Int) < (t.rules.length : Nat)
  · simp (disch := first | omega | (simp only [lenT]; omega)) only [a5026, plV, tarV, dF h0, dF h1, dF h2, dT h3, evSt, ↓evPre, ↓evPreW, evPost, evPostW, evR, evU, seval]
    exact ⟨_, S, hn.self, .imm rfl, Nat.le_refl _, ⟨_, rfl, fun h => by cases h⟩, rfl⟩
  by_cases h4 : (10 : Int) < (t.routs.length : Nat)
  · simp (disch := first | omega | (simp only [lenT]; omega)) only [a5026, plV, tarV, dF h0, dF h1, dF h2, dF h3, dT h4, evSt, ↓evPre, ↓evPreW, evPost, evPostW, evR, evU, seval]
    exact ⟨_, S, hn.self, .imm rfl, Nat.le_refl _, ⟨_, rfl, fun h => by cases h⟩, rfl⟩
  by_cases h5 : (10 : Int) < (tx.length : Nat)
  · simp (disch := first | omega | (simp only [lenT]; omega)) only [a5026, plV, tarV, dF h0, dF h1, dF h2, dF h3, dF h4, dT h5, evSt, ↓evPre, ↓evPreW, evPost, evPostW, evR, evU, seval]
    exact ⟨_, S, hn.self, .imm rfl, Nat.le_refl _, ⟨_, rfl, fun h => by cases h⟩, rfl⟩
  by_cases h6 : (8 : Int) < (l.length : Nat)
  · simp (disch := first | omega | (simp only [lenT]; omega)) only [a5026, plV, tarV, dF h0, dF h1, dF h2, dF h3, dF h4, dF h5, dT h6, evSt, ↓evPre, ↓evPreW, evPost, evPostW, evR, evU, seval]
    exact ⟨_, S, hn.self, .imm rfl, Nat.le_refl _, ⟨_, rfl, fun h => by cases h⟩, rfl⟩
  simp (disch := first | omega | (simp only [lenT]; omega)) only [a5026, plV, tarV, dF h0, dF h1, dF h2, dF h3, dF h4, dF h5, dF h6, evSt, ↓evPre, ↓evPreW, evPost, evPostW, evR, evU, seval]
  refine loopF (ι := Nat) (fun k => [(2, .sl 8 (l.map wntR)), (7, .int .i64 (k : Nat))]) (fun _ => S) (fun k => k ≤ l.length ∧ WOk (l.take k)) (fun k => l.length - k) (fun i hi => by rw [hσ]; exact Nat.le_refl _) 0 ⟨Nat.zero_le _, fun w hw => by simp at hw⟩ (.inl ⟨?_, rfl⟩) ?_
  · simp only [↓evPre, ↓evPreW, evPost, evPostW, evR, evU, seval]
    try rfl
  rintro k ⟨hk, hin⟩
  cases hc : l[k]? with
  | none =>
    have hge : l.length ≤ k := List.getElem?_eq_none_iff.1 hc
    have hlt : ¬ ((k : Int) < l.length) := by omega
    rw [List.take_of_length_le hge] at hin
    simp (disch := first | omega | (simp only [lenT]; omega)) only [dF hlt, evSt, ↓evPre, ↓evPreW, evPost, evPostW, evR, evU, seval]
    exact ⟨_, S, hn.self, .imm rfl, Nat.le_refl _, ⟨_, rfl, fun _ => ⟨by omega, by omega, by omega, by omega, by omega, by omega, hin⟩⟩, rfl⟩
  | some y =>
    have hlt' := (List.getElem?_eq_some_iff.1 hc).1
    have hlt : (k : Int) < l.length := by omega
    have hk1 : (k : Int) + 1 = ((k + 1 : Nat) : Int) := by omega
    by_cases d1 : y.s.dep < 0
    · simp (disch := first | omega | (simp only [lenT]; omega)) only [dT hlt, hc, dT d1, wntR, sgR, List.cons_append, List.nil_append, evSt, ↓evPre, ↓evPreW, evPost, evPostW, evR, evU, seval]
      exact ⟨_, S, hn.fgt _, .imm rfl, Nat.le_refl _, ⟨_, rfl, fun h => by cases h⟩, rfl⟩
    by_cases d2 : 52596000 ≤ y.s.dep
    · simp (disch := first | omega | (simp only [lenT]; omega)) only [dT hlt, hc, dF d1, dT d2, wntR, sgR, List.cons_append, List.nil_append, evSt, ↓evPre, ↓evPreW, evPost, evPostW, evR, evU, seval]
      exact ⟨_, S, hn.fgt _, .imm rfl, Nat.le_refl _, ⟨_, rfl, fun h => by cases h⟩, rfl⟩
    by_cases d3 : y.s.arr < 0
    · simp (disch := first | omega | (simp only [lenT]; omega)) only [dT hlt, hc, dF d1, dF d2, dT d3, wntR, sgR, List.cons_append, List.nil_append, evSt, ↓evPre, ↓evPreW, evPost, evPostW, evR, evU, seval]
      exact ⟨_, S, hn.fgt _, .imm rfl, Nat.le_refl _, ⟨_, rfl, fun h => by cases h⟩, rfl⟩
    by_cases d4 : 52596000 ≤ y.s.arr
    · simp (disch := first | omega | (simp only [lenT]; omega)) only [dT hlt, hc, dF d1, dF d2, dF d3, dT d4, wntR, sgR, List.cons_append, List.nil_append, evSt, ↓evPre, ↓evPreW, evPost, evPostW, evR, evU, seval]
      exact ⟨_, S, hn.fgt _, .imm rfl, Nat.le_refl _, ⟨_, rfl, fun h => by cases h⟩, rfl⟩
    simp (disch := first | omega | (simp only [lenT]; omega)) only [dT hlt, hc, dF d1, dF d2, dF d3, dF d4, wntR, sgR, wrap_i64, hk1, List.cons_append, List.nil_append, evSt, ↓evPre, ↓evPreW, evPost, evPostW, evR, evU, seval]
    refine ⟨fun _ => ?_, fun _ => ?_⟩
    · exact ⟨_, S, hn.fgt _, .imm rfl, Nat.le_refl _, ⟨_, rfl, fun h => by cases h⟩, rfl⟩
    · refine ⟨k + 1, ⟨by omega, fun w hw => ?_⟩, by omega, back_under (hn.fgt _) (by simp only [↓evPre, ↓evPreW, evPost, evPostW, evR, evU, seval]; try rfl) (by simp [V.under, V.allUnder])⟩
      rw [take_at hc] at hw
      rcases List.mem_append.1 hw with hw | hw
      · exact hin w hw
      · rw [List.mem_singleton] at hw
        subst hw
        omega
def r0 : Rul := ⟨1, .mk 1 [] 0 0 ⟨0, 0, 0⟩ [], [], 0, 0, 0, 0, []⟩
end Go.Proofs.YtkdbghhdklfoiaaDoor.Cm
