/- States of coupons: compared, ordered, merged. -/
import Derived.Test.YtlnpfnoemhjheaaGreatDoorMRecC
import Derived.Test.YtlnpfnoemhjheaaGreatDoorMAlM
import Derived.Shelf.SlSortCmp.WholeK
import Derived.Test.YtlnpfnoemhjheaaGreatDoorProg
namespace Go.Proofs.YtlnpfnoemhjheaaGreatDoor
open Go Go.AL
set_option linter.unusedSectionVars false
variable [Go.AL.Mode]
set_option linter.unusedSimpArgs false
set_option linter.unusedVariables false
structure St where
  t : Int
  c : Int
  v : Int
  s : Int
  deriving DecidableEq, Inhabited
def stR (x : St) : List V := [.int .i64 x.t, .int .i64 x.c, .int .i64 x.v, .int .i64 x.s]
def stV (x : St) : V := .agg (stR x)
def stSl (l : List St) : V := .sl 4 (l.map stR)
theorem stR_imm (l : List St) : ∀ r ∈ l.map stR, r.length = 4 ∧ V.allImm r = true := fun r hr => by
  obtain ⟨x, _, rfl⟩ := List.mem_map.1 hr
  exact ⟨rfl, rfl⟩
theorem eqd_st (x y : St) : (decide (x.t = y.t) && (decide (x.c = y.c) && (decide (x.v = y.v) && decide (x.s = y.s)))) = decide (x = y) := by
  obtain ⟨a, b, c, d⟩ := x
  obtain ⟨a', b', c', d'⟩ := y
  simp
theorem dT {p : Prop} [Decidable p] (h : p) : decide p = true := decide_eq_true h
theorem dF {p : Prop} [Decidable p] (h : ¬ p) : decide p = false := decide_eq_false h
theorem isNaN_A (n : Int) (S : Store) : CallA Tryz.prog 72 [.int .i64 n] S fun r S' => r = .bool false ∧ S' = S := by
  refine CallA.keep Tryz.func72 c53 (Nat.le_of_ble_eq_true rfl) fun σ hσ => ?_
  simp only [a53, ↓evPre, ↓evPreW, evPost, evPostW, evR, evU, seval]
def cmpF (a b : Int) : Int := if a < b then -1 else if b < a then 1 else 0
theorem compare_A (a b : Int) (S : Store) : CallA Tryz.prog 44 [.int .i64 a, .int .i64 b] S fun r S' => r = .int .i64 (cmpF a b) ∧ S' = S := by
  refine CallA.keep Tryz.func44 c40 (Nat.le_of_ble_eq_true rfl) fun σ hσ => ?_
  simp only [a40, ↓evPre, ↓evPreW, evPost, evPostW, evR, evU, seval]
  refine (isNaN_A a S).then ?_
  simp only [↓evPre, ↓evPreW, evPost, evPostW, evR, evU, seval]
  refine (isNaN_A b S).then ?_
  by_cases h1 : a < b
  · simp only [cmpF, h1, if_true, ↓evPre, ↓evPreW, evPost, evPostW, evR, evU, seval]
  by_cases h2 : b < a
  · simp only [cmpF, h1, h2, if_true, if_false, ↓evPre, ↓evPreW, evPost, evPostW, evR, evU, seval]
  simp only [cmpF, h1, h2, if_false, ↓evPre, ↓evPreW, evPost, evPostW, evR, evU, seval]
theorem or_A (a b : Int) (S : Store) : CallA Tryz.prog 43 [.sl 1 [[.int .i64 a], [.int .i64 b]]] S fun r S' => r = .int .i64 (if a ≠ 0 then a else b) ∧ S' = S := by
  refine CallA.keep Tryz.func43 c39 (Nat.le_of_ble_eq_true rfl) fun σ hσ => ?_
  simp only [a39, ↓evPre, ↓evPreW, evPost, evPostW, evR, evU, seval]
  refine loopA (ι := Nat) (fun k => [(3, .int .i64 0), (6, .sl 1 [[.int .i64 a], [.int .i64 b]]), (7, .int .i64 2), (8, .int .i64 k)]) (fun _ => S) (fun k => k ≤ 2 ∧ (0 < k → a = 0) ∧ (1 < k → b = 0)) (fun k => 2 - k) 0 ⟨by omega, fun h => by omega, fun h => by omega⟩ ?_ rfl ?_
  · simp only [↓evPre, ↓evPreW, evPost, evPostW, evR, evU, seval]
    try rfl
  · rintro k ⟨hk, h1, h2⟩
    match k, hk, h1, h2 with
    | 0, hk, h1, h2 =>
      simp (disch := first | omega | (simp only [lenT]; omega)) only [wrap_i64, ↓evPre, ↓evPreW, evPost, evPostW, evR, evU, seval]
      exact ⟨fun h => by rw [if_pos h], fun h => ⟨1, ⟨by omega, fun _ => Decidable.not_not.1 h, fun h => by omega⟩, by omega, rfl⟩⟩
    | 1, hk, h1, h2 =>
      simp (disch := first | omega | (simp only [lenT]; omega)) only [wrap_i64, ↓evPre, ↓evPreW, evPost, evPostW, evR, evU, seval]
      have h0 : ¬ a ≠ 0 := fun h => h (h1 (by omega))
      exact ⟨fun h => by rw [if_neg h0], fun h => ⟨2, ⟨by omega, fun _ => h1 (by omega), fun _ => Decidable.not_not.1 h⟩, by omega, rfl⟩⟩
    | 2, hk, h1, h2 =>
      have h22 : ¬ ((2 : Nat) : Int) < 2 := by omega
      have h0 : ¬ a ≠ 0 := fun h => h (h1 (by omega))
      simp (disch := first | omega | (simp only [lenT]; omega)) only [wrap_i64, h22, decide_false, ↓evPre, ↓evPreW, evPost, evPostW, evR, evU, seval]
      rw [if_neg h0, h2 (by omega)]
def cfS (x y : St) : Int := if cmpF x.t y.t ≠ 0 then cmpF x.t y.t else cmpF x.c y.c
def ltS (x y : St) : Bool := decide (x.t < y.t ∨ (x.t = y.t ∧ x.c < y.c))
def sameS (x y : St) : Bool := decide (x.t = y.t ∧ x.c = y.c)
theorem cfS_lt (x y : St) : decide (cfS x y < 0) = ltS x y := by
  unfold cfS ltS cmpF
  apply decide_eq_decide.2
  repeat' split
  all_goals omega
theorem cmpS_A (x y : St) (S : Store) : CallA Tryz.prog 73 [stV x, stV y] S fun r S' => r = .int .i64 (cfS x y) ∧ S' = S := by
  refine CallA.keep Tryz.func73 c55 (Nat.le_of_ble_eq_true rfl) fun σ hσ => ?_
  simp only [a55, stV, stR, ↓evPre, ↓evPreW, evPost, evPostW, evR, evU, seval]
  refine exD.intro (compare_A _ _ S) ?_
  simp only [↓evPre, ↓evPreW, evPost, evPostW, evR, evU, seval]
  refine (compare_A _ _ S).then ?_
  simp only [↓evPre, ↓evPreW, evPost, evPostW, evR, evU, seval]
  refine (or_A _ _ S).then ?_
  simp only [↓evPre, ↓evPreW, evPost, evPostW, evR, evU, seval]
  try rfl
def mrgS (a b : St) : St := if a.v > b.v ∨ a = b then a else if a.v < b.v then b else ⟨a.t, a.c, a.v + 1, max a.s b.s⟩
end Go.Proofs.YtlnpfnoemhjheaaGreatDoor
/- The states of a list, by their coupons. -/
namespace Go.Proofs.YtlnpfnoemhjheaaGreatDoor
open Go Go.AL
set_option linter.unusedSectionVars false
variable [Go.AL.Mode] [Go.AL.LooseM]
set_option linter.unusedSimpArgs false
set_option linter.unusedVariables false
def keyV (x : St) : V := .agg [.int .i64 x.t, .int .i64 x.c]
def ent (x : St) : V × V := (keyV x, stV x)
def mpS (l : List St) : AL.Obj := ⟨0, some (.mp ⟨.st [.int .i64, .int .i64], l.map ent, .free⟩)⟩
theorem eqKV_key (x y : St) : eqKV (keyV x) (keyV y) = sameS x y := by
  simp [eqKV, keyV, eqKL, eqK1, sameS]
theorem find_ents (x : St) : ∀ (l : List St), findV (keyV x) (l.map ent) = (l.find? (sameS x)).map stV
  | [] => rfl
  | y :: l => by
    rw [List.map_cons, findV, List.find?_cons]
    show (if eqKV (keyV x) (keyV y) = true then _ else _) = _
    rw [eqKV_key]
    cases sameS x y
    · simpa using find_ents x l
    · rfl
theorem put_ents_new (x y : St) (hk : keyV x = keyV y) : ∀ {l : List St}, l.find? (sameS x) = none → putV (keyV x) (stV y) (l.map ent) = (l ++ [y]).map ent := by
  intro l
  induction l with
  | nil => intro _; rw [hk]; rfl
  | cons z l ih =>
    intro h
    rw [List.find?_cons] at h
    split at h
    · cases h
    · rename_i hs
      rw [List.map_cons, putV]
      show (if eqKV (keyV x) (keyV z) = true then _ else _) = _
      rw [eqKV_key, hs, ih h]
      rfl
def putS (y : St) : List St → List St
  | [] => [y]
  | z :: l => if sameS y z then y :: l else z :: putS y l
theorem put_ents (y : St) : ∀ (l : List St), putV (keyV y) (stV y) (l.map ent) = (putS y l).map ent
  | [] => rfl
  | z :: l => by
    rw [List.map_cons, putV, putS]
    show (if eqKV (keyV y) (keyV z) = true then _ else _) = _
    rw [eqKV_key]
    cases sameS y z
    · simp only [Bool.false_eq_true, if_false, put_ents y l]; rfl
    · rfl
def addF (acc : List St) (x : St) : List St := if (acc.find? (sameS x)).isSome then acc else acc ++ [x]
def firsts (l : List St) : List St := l.foldl addF []
theorem firsts_take {l : List St} {k : Nat} {x : St} (h : l[k]? = some x) : firsts (l.take (k + 1)) = addF (firsts (l.take k)) x := by
  rw [firsts, List.take_add_one, h, Option.toList_some, List.foldl_append]
  rfl
theorem mpS_keys (l : List St) : KeysK (fun p : Int × Int => V.agg [.int .i64 p.1, .int .i64 p.2]) (l.map ent) := fun p hp => by
  obtain ⟨x, _, rfl⟩ := List.mem_map.1 hp
  exact ⟨⟨(x.t, x.c), rfl⟩, rfl, rfl⟩
theorem objF_mpS {S S1 : Store} {l : List St} {x : MX} (hx : x.isIt = false) : objF S S1 ⟨0, some (.mp ⟨.st [.int .i64, .int .i64], l.map ent, x⟩)⟩ (some (.mp ⟨.st [.int .i64, .int .i64], l.map ent, x⟩)) :=
  objF_map rfl hx (mpS_keys l) fun a => rfl
theorem of_A (l : List St) (S : Store) (hl : l.length < 1000000) : CallA Tryz.prog 45 [stSl l] S fun r S' => r = .mapv S.length 0 ∧ S' = S ++ [mpS (firsts l)] := by
  refine CallA.withNeat Tryz.func45 c43 fun hn => ?_
  refine CallA.fin Tryz.func45 c43 (Nat.le_of_ble_eq_true rfl) fun σ hσ => ?_
  simp (disch := first | omega | (simp only [lenT]; omega)) only [a43, stSl, evSt, ↓evPre, ↓evPreW, evPost, evPostW, evR, evU, seval]
  refine loopF (ι := Nat) (fun k => [(3, .mapv S.length 0), (10, stSl l), (11, .int .i64 l.length), (12, .int .i64 k)]) (fun k => S ++ [mpS (firsts (l.take k))]) (fun k => k ≤ l.length) (fun k => l.length - k) (fun k _ => by rw [hσ]; simp) 0 (Nat.zero_le _) (.inl ⟨?_, ?_⟩) ?_
  · simp only [stSl, ↓evPre, ↓evPreW, evPost, evPostW, evR, evU, seval]
  · rfl
  · intro k hk
    cases hc : l[k]? with
    | none =>
      have hge : l.length ≤ k := List.getElem?_eq_none_iff.1 hc
      have hlt : ¬ ((k : Int) < l.length) := by omega
      have e : k = l.length := by omega
      subst e
      simp (disch := first | omega | (simp only [lenT]; omega)) only [stSl, mpS, hlt, decide_false, evSt, ↓evPre, ↓evPreW, evPost, evPostW, evR, evU, seval]
      rw [List.take_length]
      exact ⟨_, S ++ [mpS (firsts l)], hn.fgtL (L1 := [mpS (firsts l)]) ⟨rfl, objF_mpS rfl, trivial⟩, .same (.inl (by simp [V.under])), by simp, rfl, rfl⟩
    | some x =>
      have hlt' := (List.getElem?_eq_some_iff.1 hc).1
      have hlt : (k : Int) < l.length := by omega
      have hf := find_ents x (firsts (l.take k))
      have hnx := firsts_take hc
      unfold addF at hnx
      unfold keyV at hf
      have hE : ∀ (E : Env), sub [(3, .mapv S.length 0), (10, stSl l), (11, .int .i64 l.length), (12, .int .i64 ((k + 1 : Nat) : Int))] E → ∀ (T : Store) (m : List St), m = firsts (l.take (k + 1)) → ∃ k', k' ≤ l.length ∧ l.length - k' < l.length - k ∧
          Back [(3, .mapv S.length 0), (10, stSl l), (11, .int .i64 l.length), (12, .int .i64 ((k' : Nat) : Int))] (S ++ [mpS (firsts (l.take k'))]) E (S ++ mpS m :: T) := by
        intro E hs T m hm
        subst hm
        exact ⟨k + 1, by omega, by omega, back_under (hn.fgtL (L := mpS (firsts (l.take (k + 1))) :: T) (L1 := [mpS (firsts (l.take (k + 1)))]) ⟨rfl, objF_mpS rfl, fgtL_nil⟩) hs (by simp [V.under, stSl])⟩
      cases hg : (firsts (l.take k)).find? (sameS x) with
      | some y =>
        rw [hg] at hf hnx
        simp (disch := first | omega | (simp only [lenT]; omega)) only [stSl, mpS, stV, stR, hlt, hc, hf, wrap_i64, Option.getD_some, Option.isSome_some, decide_true, evSt, ↓evPre, ↓evPreW, evPost, evPostW, evR, evU, seval]
        exact hE _ ⟨rfl, rfl, rfl, rfl, trivial⟩ _ _ (by rw [hnx]; rfl)
      | none =>
        rw [hg] at hf hnx
        have hp := put_ents_new x x rfl hg
        unfold keyV stV stR at hp
        simp (disch := first | omega | (simp only [lenT]; omega)) only [stSl, mpS, stV, stR, hlt, hc, hf, hp, wrap_i64, Option.map_none, Option.getD_none, Option.isSome_none, decide_true, evSt, ↓evPre, ↓evPreW, evPost, evPostW, evR, evU, seval]
        exact hE _ ⟨rfl, rfl, rfl, rfl, trivial⟩ _ _ (by rw [hnx]; rfl)
end Go.Proofs.YtlnpfnoemhjheaaGreatDoor
/- The library's sort at this program: what its numbers are. -/
namespace Go.Proofs.YtlnpfnoemhjheaaGreatDoor
open Go Go.Shelf
def sortL_ren : Go.Shelf.Ren := ⟨fun | 6 => 41 | 15 => 71 | 14 => 70 | 28 => 105 | 29 => 106 | 20 => 97 | 21 => 98 | 22 => 99 | 23 => 100 | 24 => 101 | 25 => 102 | 26 => 103 | 27 => 104 | 46 => 119 | 47 => 120 | 48 => 121 | 49 => 122 | 50 => 123 | 57 => 136 | n => n, fun | 22 => 22 | 24 => 41 | 25 => 99 | 3 => 3 | 39 => 140 | 0 => 0 | 53 => 174 | 55 => 122 | 4 => 4 | 46 => 167 | 45 => 166 | 50 => 171 | 5 => 5 | 9 => 9 | 66 => 184 | 70 => 188 | 76 => 202 | 77 => 203 | n => n, fun | n => n⟩
theorem sortL : Go.Proofs.SlLaysF0.n6 Tryz.prog sortL_ren := {
  mixed := by kernel_rfl
  f6 := ⟨Tryz.f41.name, by decide, Tryz.func41.trans (congrArg some (by kernel_rfl))⟩
  f14 := ⟨Tryz.f70.name, by decide, Tryz.func70.trans (congrArg some (by kernel_rfl))⟩
  f15 := Tryz.func71.trans (congrArg some (by kernel_rfl))
  f20 := ⟨Tryz.f97.name, by decide, Tryz.func97.trans (congrArg some (by kernel_rfl))⟩
  f21 := ⟨Tryz.f98.name, by decide, Tryz.func98.trans (congrArg some (by kernel_rfl))⟩
  f22 := ⟨Tryz.f99.name, by decide, Tryz.func99.trans (congrArg some (by kernel_rfl))⟩
  f23 := ⟨Tryz.f100.name, by decide, Tryz.func100.trans (congrArg some (by kernel_rfl))⟩
  f24 := ⟨Tryz.f101.name, by decide, Tryz.func101.trans (congrArg some (by kernel_rfl))⟩
  f25 := ⟨Tryz.f102.name, by decide, Tryz.func102.trans (congrArg some (by kernel_rfl))⟩
  f26 := ⟨Tryz.f103.name, by decide, Tryz.func103.trans (congrArg some (by kernel_rfl))⟩
  f27 := ⟨Tryz.f104.name, by decide, Tryz.func104.trans (congrArg some (by kernel_rfl))⟩
  f28 := Tryz.func105.trans (congrArg some (by kernel_rfl))
  f29 := Tryz.func106.trans (congrArg some (by kernel_rfl))
  f46 := ⟨Tryz.f119.name, by decide, Tryz.func119.trans (congrArg some (by kernel_rfl))⟩
  f47 := Tryz.func120.trans (congrArg some (by kernel_rfl))
  f48 := Tryz.func121.trans (congrArg some (by kernel_rfl))
  f49 := ⟨Tryz.f122.name, by decide, Tryz.func122.trans (congrArg some (by kernel_rfl))⟩
  f50 := ⟨Tryz.f123.name, by decide, Tryz.func123.trans (congrArg some (by kernel_rfl))⟩
  f57 := ⟨Tryz.f136.name, by decide, Tryz.func136.trans (congrArg some (by kernel_rfl))⟩
  t0 := Tryz.underlying0
  a0 := Tryz.isAgg0
  z0 := Tryz.sizeOf0
  v0 := Tryz.zeroValue0
  t3 := Tryz.underlying3
  a3 := Tryz.isAgg3
  z3 := Tryz.sizeOf3
  v3 := Tryz.zeroValue3
  t4 := Tryz.underlying4
  a4 := Tryz.isAgg4
  z4 := Tryz.sizeOf4
  v4 := Tryz.zeroValue4
  t5 := Tryz.underlying5
  a5 := Tryz.isAgg5
  z5 := Tryz.sizeOf5
  v5 := Tryz.zeroValue5
  t9 := Tryz.underlying9
  a9 := Tryz.isAgg9
  z9 := Tryz.sizeOf9
  v9 := Tryz.zeroValue9
  t22 := Tryz.underlying22
  a22 := Tryz.isAgg22
  z22 := Tryz.sizeOf22
  v22 := Tryz.zeroValue22
  t25 := Tryz.underlying99
  a25 := Tryz.isAgg99
  z25 := Tryz.sizeOf99
  v25 := Tryz.zeroValue99
  t39 := Tryz.underlying140
  a39 := Tryz.isAgg140
  z39 := Tryz.sizeOf140
  v39 := Tryz.zeroValue140
  t45 := Tryz.underlying166
  a45 := Tryz.isAgg166
  z45 := Tryz.sizeOf166
  v45 := Tryz.zeroValue166
  t46 := Tryz.underlying167
  a46 := Tryz.isAgg167
  z46 := Tryz.sizeOf167
  v46 := Tryz.zeroValue167
  t50 := Tryz.underlying171
  a50 := Tryz.isAgg171
  z50 := Tryz.sizeOf171
  v50 := Tryz.zeroValue171
  t53 := Tryz.underlying174
  a53 := Tryz.isAgg174
  z53 := Tryz.sizeOf174
  v53 := Tryz.zeroValue174
  t55 := Tryz.underlying122
  a55 := Tryz.isAgg122
  z55 := Tryz.sizeOf122
  v55 := Tryz.zeroValue122
  t66 := Tryz.underlying184
  a66 := Tryz.isAgg184
  z66 := Tryz.sizeOf184
  v66 := Tryz.zeroValue184
  t70 := Tryz.underlying188
  a70 := Tryz.isAgg188
  z70 := Tryz.sizeOf188
  v70 := Tryz.zeroValue188
  t76 := Tryz.underlying202
  a76 := Tryz.isAgg202
  z76 := Tryz.sizeOf202
  v76 := Tryz.zeroValue202
  t77 := Tryz.underlying203
  a77 := Tryz.isAgg203
  z77 := Tryz.sizeOf203
  v77 := Tryz.zeroValue203 }
end Go.Proofs.YtlnpfnoemhjheaaGreatDoor
