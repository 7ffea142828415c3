/- States as messages: what the program writes. -/
import Derived.Test.YtlnpfnoemhjheaaGreatDoorMRn0
import Derived.Test.YtlnpfnoemhjheaaGreatDoorMEdEdi20
import Derived.Test.YtlnpfnoemhjheaaGreatDoorMRec1
import Derived.Test.YtlnpfnoemhjheaaGreatDoorMAlM
import Derived.Test.YtlnpfnoemhjheaaGreatDoorMAlX
namespace Go.Proofs.YtlnpfnoemhjheaaGreatDoor
open Go Go.AL
set_option linter.unusedSectionVars false
variable [Go.AL.Mode] [Go.AL.LooseM]
set_option linter.unusedSimpArgs false
set_option linter.unusedVariables false
theorem LoopA.neat {P : Program} {N : Nat} {σ : Base} {b : ACode} {Q : Exit → Env → Store → Prop} {E : Env} {S : Store} (h : Neat S → LoopA P N σ b Q E S) : LoopA P N σ b Q E S :=
  fun c own hc ρ a w hx hr => h hr.inv.neat c own hc ρ a w hx hr
def cpn : Tx := [67, 80, 78]
def lnOf (x : St) : Ed.Ln := ⟨cpn, [[Lib.itoa x.t], [Lib.itoa x.c], [Lib.itoa x.v], [Lib.itoa x.s]]⟩
def okI (n : Int) : Prop := -9223372036854775808 ≤ n ∧ n ≤ 9223372036854775807
def okX (x : St) : Prop := okI x.t ∧ okI x.c ∧ okI x.v ∧ okI x.s
def elsOf (x : St) : List (List V) := [[.sl 1 [[.str (Lib.itoa x.t)]]], [.sl 1 [[.str (Lib.itoa x.c)]]], [.sl 1 [[.str (Lib.itoa x.v)]]], [.sl 1 [[.str (Lib.itoa x.s)]]]]
theorem ln_imm (l : List St) : ∀ r ∈ l.map fun x => Ed.lnR (lnOf x), r.length = 2 ∧ V.allImm r = true := fun r hr => by
  obtain ⟨x, _, rfl⟩ := List.mem_map.1 hr
  exact ⟨rfl, rfl⟩
theorem lg_under {S : Store} {q : TypeId} {sz : Nat} {rows : List (List V)} {v : V} {S' : Store} (h : LG S q sz rows v S') {n : Nat} (hn : S'.length ≤ n) : v.under n = true := by
  rcases h.here with ⟨rfl, _⟩ | ⟨id, ver, _, rfl, h5⟩
  · simp [V.under]
  · have := obj_lt h5
    simp [V.under]
    omega
def cellE (n : Nat) (x : St) : Nat → V
  | 0 => .nilSl
  | 1 => .msl n 0 0 1
  | 2 => .msl n 1 0 2
  | 3 => .msl n 2 0 3
  | _ => .sl 1 (elsOf x)
def objE (x : St) : Nat → Store
  | 0 => []
  | 1 => [⟨0, some (.arr 62 1 ((elsOf x).take 1))⟩]
  | 2 => [⟨1, some (.arr 62 1 ((elsOf x).take 2))⟩]
  | 3 => [⟨2, some (.arr 62 1 ((elsOf x).take 3))⟩]
  | _ => []
def intsOf (x : St) : List (List V) := [[.int .i64 x.t], [.int .i64 x.c], [.int .i64 x.v], [.int .i64 x.s]]
theorem szX_of (x : St) (h : okX x) : Ed.szX (lnOf x) ≤ 100 := by
  obtain ⟨⟨t0, t1⟩, ⟨c0, c1⟩, ⟨v0, v1⟩, ⟨s0, s1⟩⟩ := h
  have h1 := itoa_len x.t t0 t1
  have h2 := itoa_len x.c c0 c1
  have h3 := itoa_len x.v v0 v1
  have h4 := itoa_len x.s s0 s1
  simp only [Ed.szX, lnOf, cpn, Ed.szE, List.map_cons, List.map_nil, List.sum_cons, List.sum_nil, List.length_cons, List.length_nil]
  omega
theorem szL_of : ∀ (l : List St), (∀ x ∈ l, okX x) → Ed.szL (l.map lnOf) ≤ 101 * l.length
  | [], _ => by simp [Ed.szL]
  | x :: l, h => by
    have h1 := szX_of x (h x (.head _))
    have h2 := szL_of l fun y hy => h y (.tail _ hy)
    simp only [Ed.szL, List.map_cons, List.sum_cons, List.length_cons] at h2 ⊢
    omega
set_option maxHeartbeats 4000000 in
set_option maxRecDepth 10000 in
theorem encode_A (l : List St) (hl : l.length ≤ 60) (hx : ∀ x ∈ l, okX x) (S : Store) : CallA Tryz.prog 6 [stSl l] S fun r S' => r = Ed.printV (l.map lnOf) ∧ S' = S := by
  refine CallA.withNeat Tryz.func6 c9006 fun hn => ?_
  refine CallA.keep Tryz.func6 c9006 (Nat.le_of_ble_eq_true rfl) fun σ hσ => ?_
  have hpr : CallA Tryz.prog 25 [.sl 2 (l.map fun x => Ed.lnR (lnOf x))] S fun r S' => r = Ed.printV (l.map lnOf) ∧ S' = S := by
    have := Ed.print_A (l.map lnOf) S (by have := szL_of l hx; omega)
    unfold Ed.lnV at this
    rw [List.map_map] at this
    exact this
  simp (disch := first | omega | (simp only [lenT]; omega)) only [a9006, stSl, evSt, ↓evPre, ↓evPreW, evPost, evPostW, evR, evU, seval]
  refine loopF (ι := Nat × V × Store) (fun i => [(4, i.2.1), (10, .sl 4 (l.map stR)), (11, .int .i64 l.length), (12, .int .i64 (i.1 : Nat))]) (fun i => i.2.2)
    (fun i => i.1 ≤ l.length ∧ (∃ T, i.2.2 = S ++ T) ∧ (i.1 < l.length → LG S 58 2 ((l.take i.1).map fun x => Ed.lnR (lnOf x)) i.2.1 i.2.2) ∧ (i.1 = l.length → i.2.1 = .sl 2 (l.map fun x => Ed.lnR (lnOf x)) ∧ i.2.2 = S)) (fun i => l.length - i.1)
    (fun i hi => by rw [hσ]; obtain ⟨T, hT⟩ := hi.2.1; rw [hT]; simp) (0, if l.length = 0 then .sl 2 [] else .nilSl, S) ⟨Nat.zero_le _, ⟨[], by simp⟩, fun h => by rw [if_neg (by simp only at h; omega)]; exact LG.nil0, fun h => by rw [if_pos h.symm, List.eq_nil_of_length_eq_zero h.symm]; exact ⟨rfl, rfl⟩⟩ ?_ ?_
  · by_cases hz : l.length = 0
    · refine .inr ⟨hn.self, ?_⟩
      rw [if_pos hz]
      simp only [subF, ↓evPre, ↓evPreW, evPost, evPostW, evR, evU, seval]
      exact ⟨.nil, .imm rfl, .imm rfl, .imm rfl⟩
    · refine .inl ⟨?_, rfl⟩
      rw [if_neg hz]
      simp only [↓evPre, ↓evPreW, evPost, evPostW, evR, evU, seval]
      try rfl
  rintro ⟨k, v, S1⟩ ⟨hk, ⟨T, hT⟩, hg, hfr⟩
  simp only at hk hT hg hfr ⊢
  cases hc : l[k]? with
  | none =>
    have hge := List.getElem?_eq_none_iff.1 hc
    have hlt : ¬ ((k : Int) < l.length) := by omega
    obtain ⟨rfl, rfl⟩ := hfr (by omega)
    simp (disch := first | omega | (simp only [lenT]; omega)) only [decide_eq_false hlt, evSt, ↓evPre, ↓evPreW, evPost, evPostW, evR, evU, seval]
    refine hpr.then ?_
    unfold Ed.printV
    split <;> simp (disch := first | omega | (simp only [lenT]; omega)) only [evSt, ↓evPre, ↓evPreW, evPost, evPostW, evR, evU, seval]
  | some x =>
    have hlt' := (List.getElem?_eq_some_iff.1 hc).1
    have hlt : (k : Int) < l.length := by omega
    have hg := hg (by omega)
    have hk1 : (k : Int) + 1 = ((k + 1 : Nat) : Int) := by omega
    simp (disch := first | omega | (simp only [lenT]; omega)) only [decide_eq_true hlt, hc, stR, evSt, ↓evPre, ↓evPreW, evPost, evPostW, evR, evU, seval]
    refine LoopA.neat fun hn1 => ?_
    have hin := Ed.neatIn_of hn1
    have hlen1 : S.length ≤ S1.length := by rw [hT]; simp
    refine loopF (ι := Nat) (fun j => [(4, v), (6, .ptr S1.length 0 0 0), (7, .ptr (S1.length + 1) 0 0 0), (10, .sl 4 (l.map stR)), (11, .int .i64 l.length), (12, .int .i64 (k : Nat)), (25, .sl 1 (intsOf x)), (26, .int .i64 4), (27, .int .i64 (j : Nat))])
      (fun j => S1 ++ (⟨0, some (.arr 41 4 [stR x])⟩ :: ⟨0, some (.arr 58 2 [[.str cpn, cellE (S1.length + 2) x j]])⟩ :: objE x j)) (fun j => j ≤ 4) (fun j => 4 - j) (fun j hj => by rw [hσ]; simp; omega) 0 (by omega) (.inl ⟨?_, ?_⟩) ?_
    · simp only [intsOf, ↓evPre, ↓evPreW, evPost, evPostW, evR, evU, seval]
      try rfl
    · simp only [stR, cpn, cellE, objE]
    obtain ⟨⟨t0, t1⟩, ⟨c0, c1⟩, ⟨v0, v1⟩, ⟨s0, s1⟩⟩ := hx x (List.mem_of_getElem? hc)
    intro j hj
    match j, hj with
    | 0, _ =>
      simp (disch := first | omega | (simp only [lenT]; omega)) only [intsOf, cellE, objE, cpn, stR, elsOf, evSt, ↓evPre, ↓evPreW, evPost, evPostW, evR, evU, seval]
      refine exD.intro (decimal_A x.t t0 t1) ?_
      simp (disch := first | omega | (simp only [lenT]; omega)) only [evSt, ↓evPre, ↓evPreW, evPost, evPostW, evR, evU, seval]
      refine ⟨by simp [roomA], 1, by omega, by omega, .inl ⟨?_, ?_⟩⟩
      · simp only [wrap_i64 (n := (0 : Int) + 1) (by decide) (by decide), ↓evPre, ↓evPreW, evPost, evPostW, evR, evU, seval]
        try rfl
      · first | rfl | simp
    | 1, _ =>
      simp (disch := first | omega | (simp only [lenT]; omega)) only [intsOf, cellE, objE, cpn, stR, elsOf, evSt, ↓evPre, ↓evPreW, evPost, evPostW, evR, evU, seval]
      refine exD.intro (decimal_A x.c c0 c1) ?_
      simp (disch := first | omega | (simp only [lenT]; omega)) only [evSt, ↓evPre, ↓evPreW, evPost, evPostW, evR, evU, seval]
      refine ⟨by simp [roomA], 2, by omega, by omega, .inl ⟨?_, ?_⟩⟩
      · simp only [wrap_i64 (n := (1 : Int) + 1) (by decide) (by decide), ↓evPre, ↓evPreW, evPost, evPostW, evR, evU, seval]
        try rfl
      · first | rfl | simp
    | 2, _ =>
      simp (disch := first | omega | (simp only [lenT]; omega)) only [intsOf, cellE, objE, cpn, stR, elsOf, evSt, ↓evPre, ↓evPreW, evPost, evPostW, evR, evU, seval]
      refine exD.intro (decimal_A x.v v0 v1) ?_
      simp (disch := first | omega | (simp only [lenT]; omega)) only [evSt, ↓evPre, ↓evPreW, evPost, evPostW, evR, evU, seval]
      refine ⟨by simp [roomA], 3, by omega, by omega, .inl ⟨?_, ?_⟩⟩
      · simp only [wrap_i64 (n := (2 : Int) + 1) (by decide) (by decide), ↓evPre, ↓evPreW, evPost, evPostW, evR, evU, seval]
        try rfl
      · first | rfl | simp
    | 3, _ =>
      simp (disch := first | omega | (simp only [lenT]; omega)) only [intsOf, cellE, objE, cpn, stR, elsOf, evSt, ↓evPre, ↓evPreW, evPost, evPostW, evR, evU, seval]
      refine exD.intro (decimal_A x.s s0 s1) ?_
      simp (disch := first | omega | (simp only [lenT]; omega)) only [evSt, ↓evPre, ↓evPreW, evPost, evPostW, evR, evU, seval]
      refine ⟨by simp [roomA], 4, by omega, by omega, .inr ⟨?_, ?_⟩⟩
      · refine Ed.fgt_two hin (fun e sz rows h r hr => ?_) rfl (fun m h => by cases h) (fun m h => by cases h) (fun t sz rows1 h => ?_)
        · cases h
          rw [List.mem_singleton.1 hr]
          exact ⟨rfl, by simp [V.allUnder, V.under]⟩
        · cases h
          refine ⟨_, rfl, rfl, fun i r hi => ?_, fun i r hi q y hq r' z hr' hz => ?_⟩
          · match i, hi with
            | 0, hi => cases hi; rfl
          · match i, hi, hr' with
            | 0, hi, hr' =>
              cases hi
              cases hr'
              match q, hq, hz with
              | 0, hq, hz => cases hq; cases hz; exact .imm rfl
              | 1, hq, hz =>
                cases hq
                cases hz
                refine Frz.sl (t := 62) (by simp) ?_ rfl (fun r hr => ?_)
                · simp [Store.obj?]
                · simp only [List.mem_cons, List.not_mem_nil, or_false] at hr
                  rcases hr with rfl | rfl | rfl | rfl <;> exact ⟨rfl, rfl⟩
      · simp only [subF, ↓evPre, ↓evPreW, evPost, evPostW, evR, evU, seval]
        exact ⟨.same (.inl (lg_under hg (by simp))), .same (.inl (by simp [V.under])), .same (.inl (by simp [V.under])), .imm rfl, .imm rfl, .imm rfl, .imm rfl, .imm rfl, .imm rfl⟩
    | 4, _ =>
      simp (disch := first | omega | (simp only [lenT]; omega)) only [intsOf, cellE, objE, cpn, stR, elsOf, evSt, ↓evPre, ↓evPreW, evPost, evPostW, evR, evU, seval]
      refine (hg.add _).app (by simp; omega) fun v' S2 h2 => ?_
      have htk : (l.take (k + 1)).map (fun x => Ed.lnR (lnOf x)) = (l.take k).map (fun x => Ed.lnR (lnOf x)) ++ [Ed.lnR (lnOf x)] := by
        rw [List.take_add_one, hc]
        simp
      rw [show [[V.str [67, 80, 78], V.sl 1 [[V.sl 1 [[V.str (Lib.itoa x.t)]]], [V.sl 1 [[V.str (Lib.itoa x.c)]]], [V.sl 1 [[V.str (Lib.itoa x.v)]]], [V.sl 1 [[V.str (Lib.itoa x.s)]]]]]] = [Ed.lnR (lnOf x)] from rfl, ← htk] at h2
      simp (disch := first | omega | (simp only [lenT]; omega)) only [wrap_i64, hk1, evSt, ↓evPre, ↓evPreW, evPost, evPostW, evR, evU, seval]
      by_cases hlast : k + 1 = l.length
      · have hfin := h2.fin hn (fun r hr => ln_imm _ r hr)
        rw [List.take_of_length_le (by omega)] at hfin
        exact ⟨(k + 1, .sl 2 (l.map fun x => Ed.lnR (lnOf x)), S), ⟨by simp only; omega, ⟨[], by simp⟩, fun h => by simp only at h; omega, fun _ => ⟨rfl, rfl⟩⟩, by simp only; omega, .inr ⟨hfin.1, by simp only [subF, ↓evPre, ↓evPreW, evPost, evPostW, evR, evU, seval]; exact ⟨hfin.2, .imm rfl, .imm rfl, .imm rfl⟩⟩⟩
      · exact ⟨(k + 1, v', S2), ⟨by simp only; omega, h2.ext, fun _ => h2, fun h => by simp only at h; omega⟩, by simp only; omega, .inl ⟨by simp only [stR, ↓evPre, ↓evPreW, evPost, evPostW, evR, evU, seval]; try rfl, rfl⟩⟩
end Go.Proofs.YtlnpfnoemhjheaaGreatDoor
/- States as messages: what the program reads. -/
namespace Go.Proofs.YtlnpfnoemhjheaaGreatDoor
open Go Go.AL
set_option linter.unusedSectionVars false
variable [Go.AL.Mode] [Go.AL.LooseM]
set_option linter.unusedSimpArgs false
set_option linter.unusedVariables false
def elF : List Tx → Option Int
  | [d] => if (numF d).2 = 0 then some (numF d).1 else none
  | _ => none
def stateF (x : Ed.Ln) : Option St :=
  if x.tag = cpn then
    match x.els with
    | [a, b, c, d] => match elF a, elF b, elF c, elF d with
      | some t, some k, some v, some s => some ⟨t, k, v, s⟩
      | _, _, _, _ => none
    | _ => none
  else none
def stZ : St := ⟨0, 0, 0, 0⟩
def stateV : Option St → V
  | some x => .tup [stV x, .bool true]
  | none => .tup [stV stZ, .bool false]
theorem elF_itoa (n : Int) (h : okI n) : elF [Lib.itoa n] = some n := by
  have := num_itoa n h.1 h.2
  simp only [elF, this, if_true]
theorem stateF_of (x : St) (h : okX x) : stateF (lnOf x) = some x := by
  unfold stateF lnOf
  rw [if_pos rfl]
  simp only [elF_itoa _ h.1, elF_itoa _ h.2.1, elF_itoa _ h.2.2.1, elF_itoa _ h.2.2.2]
theorem elF_one {d : Tx} (h : (numF d).2 = 0) : elF [d] = some (numF d).1 := by simp only [elF, h, if_true]
theorem elF_bad {d : Tx} (h : ¬ (numF d).2 = 0) : elF [d] = none := by simp only [elF, h, if_false]
theorem elF_len {e : List Tx} (h : e.length ≠ 1) : elF e = none := by
  match e, h with
  | [], _ => rfl
  | [d], h => exact absurd rfl h
  | d :: f :: r, _ => rfl
def rowN (a b c d : Int) : Nat → List V
  | 0 => [.int .i64 0, .int .i64 0, .int .i64 0, .int .i64 0]
  | 1 => [.int .i64 a, .int .i64 0, .int .i64 0, .int .i64 0]
  | 2 => [.int .i64 a, .int .i64 b, .int .i64 0, .int .i64 0]
  | 3 => [.int .i64 a, .int .i64 b, .int .i64 c, .int .i64 0]
  | _ => [.int .i64 a, .int .i64 b, .int .i64 c, .int .i64 d]
theorem stateF_eq (tg : Tx) (els : List (List Tx)) (ht : tg = cpn) (hl : els.length = 4) : ∃ a b c d, els = [a, b, c, d] ∧ stateF ⟨tg, els⟩ = (match elF a, elF b, elF c, elF d with
      | some t, some k, some v, some s => some ⟨t, k, v, s⟩
      | _, _, _, _ => none) := by
  match els, hl with
  | [a, b, c, d], _ => exact ⟨a, b, c, d, rfl, by unfold stateF; rw [if_pos ht]⟩
set_option maxHeartbeats 4000000 in
set_option maxRecDepth 10000 in
theorem state_A (x : Ed.Ln) (hf1 : x.els.length ≤ 1000000) (hf : ∀ e ∈ x.els, e.length ≤ 1000000 ∧ ∀ c ∈ e, c.length ≤ 1000000) (S : Store) : CallA Tryz.prog 29 [.agg (Ed.lnR x)] S fun r S' => r = stateV (stateF x) ∧ S' = S := by
  refine CallA.withNeat Tryz.func29 c9029 fun hn => ?_
  refine CallA.fin Tryz.func29 c9029 (Nat.le_of_ble_eq_true rfl) fun σ hσ => ?_
  obtain ⟨tg, els⟩ := x
  simp only at hf1 hf
  by_cases ht : tg = cpn
  case neg =>
    have e : stateF ⟨tg, els⟩ = none := by unfold stateF; rw [if_neg ht]
    rw [e]
    unfold cpn at ht
    simp (disch := first | omega | (simp only [lenT]; omega)) only [a9029, Ed.lnR, Ed.elV, decide_eq_false ht, Bool.not_false, evSt, ↓evPre, ↓evPreW, evPost, evPostW, evR, evU, seval]
    exact ⟨_, S, hn.fgt _, .imm rfl, Nat.le_refl _, rfl, rfl⟩
  have ht' := ht
  unfold cpn at ht'
  by_cases h4 : ((els.length : Nat) : Int) = 4
  case neg =>
    have e : stateF ⟨tg, els⟩ = none := by
      unfold stateF
      rw [if_pos ht]
      match els, h4 with
      | [], _ => rfl
      | [a], _ => rfl
      | [a, b], _ => rfl
      | [a, b, c], _ => rfl
      | [a, b, c, d], h => exact absurd rfl h
      | a :: b :: c :: d :: f :: r, _ => rfl
    rw [e]
    simp (disch := first | omega | (simp only [lenT]; omega)) only [a9029, Ed.lnR, Ed.elV, decide_eq_true ht', decide_eq_false h4, Bool.not_true, Bool.not_false, evSt, ↓evPre, ↓evPreW, evPost, evPostW, evR, evU, seval]
    exact ⟨_, S, hn.fgt _, .imm rfl, Nat.le_refl _, rfl, rfl⟩
  obtain ⟨a, b, c, d, rfl, hst⟩ := stateF_eq tg els ht (by omega)
  rw [hst]
  generalize hR : (match elF a, elF b, elF c, elF d with
      | some t, some k, some v, some s => some (St.mk t k v s)
      | _, _, _, _ => none) = R
  simp (disch := first | omega | (simp only [lenT]; omega)) only [a9029, Ed.lnR, Ed.elV, decide_eq_true ht', decide_eq_true h4, Bool.not_true, evSt, ↓evPre, ↓evPreW, evPost, evPostW, evR, evU, seval]
  have fin0 : ∀ (T : Store), ∃ r1 S1, Fgt (S ++ T) S1 ∧ Frz (S ++ T) S1 (.tup [.agg [.int .i64 0, .int .i64 0, .int .i64 0, .int .i64 0], .bool false]) r1 ∧ S.length ≤ S1.length ∧ r1 = stateV none ∧ S1 = S := fun T => ⟨_, S, hn.fgt T, .imm rfl, Nat.le_refl _, rfl, rfl⟩
  have none_a : elF a = none → R = none := fun h => by rw [← hR, h]
  have none_b : elF b = none → R = none := fun h => by rw [← hR, h]; cases elF a <;> rfl
  have none_c : elF c = none → R = none := fun h => by rw [← hR, h]; cases elF a <;> cases elF b <;> rfl
  have none_d : elF d = none → R = none := fun h => by rw [← hR, h]; cases elF a <;> cases elF b <;> cases elF c <;> rfl
  have ha := hf a (by simp)
  have hb := hf b (by simp)
  have hc := hf c (by simp)
  have hd := hf d (by simp)
  obtain ⟨na, hna⟩ : ∃ n, n = (elF a).getD 0 := ⟨_, rfl⟩
  obtain ⟨nb, hnb⟩ : ∃ n, n = (elF b).getD 0 := ⟨_, rfl⟩
  obtain ⟨nc, hnc⟩ : ∃ n, n = (elF c).getD 0 := ⟨_, rfl⟩
  obtain ⟨nd, hnd⟩ : ∃ n, n = (elF d).getD 0 := ⟨_, rfl⟩
  refine loopA (ι := Nat) (fun k => [(2, .ptr S.length 0 0 0), (3, .bool false), (4, .ptr (S.length + 1) 0 0 0), (19, .sl 1 [Ed.elR a, Ed.elR b, Ed.elR c, Ed.elR d]), (20, .int .i64 4), (21, .int .i64 (k : Nat))])
    (fun k => S ++ [⟨0, some (.arr 41 4 [[.int .i64 0, .int .i64 0, .int .i64 0, .int .i64 0]])⟩, ⟨0, some (.arr 68 4 [rowN na nb nc nd k])⟩])
    (fun k => k ≤ 4 ∧ (0 < k → elF a = some na) ∧ (1 < k → elF b = some nb) ∧ (2 < k → elF c = some nc) ∧ (3 < k → elF d = some nd)) (fun k => 4 - k) 0 ⟨by omega, fun h => by omega, fun h => by omega, fun h => by omega, fun h => by omega⟩ ?_ rfl ?_
  · simp only [↓evPre, ↓evPreW, evPost, evPostW, evR, evU, seval]
    try rfl
  rintro k ⟨hk, ia, ib, ic, id⟩
  match k, hk, ia, ib, ic, id with
  | 0, _, ia, ib, ic, id =>
    by_cases h1 : (((a : List Tx).length : Nat) : Int) = 1
    case neg =>
      rw [none_a (elF_len (by omega))]
      simp (disch := first | omega | (simp only [lenT]; omega)) only [Ed.elR, Ed.cmV, rowN, decide_eq_false h1, Bool.not_false, evSt, ↓evPre, ↓evPreW, evPost, evPostW, evR, evU, seval]
      exact fin0 _
    obtain ⟨t, ht1⟩ : ∃ t, a = [t] := by
      match a, h1 with
      | [t], _ => exact ⟨t, rfl⟩
    have hnum := fun S => number_A t (ha.2 t (by rw [ht1]; simp)) S
    rw [ht1] at h1
    simp (disch := first | omega | (simp only [lenT]; omega)) only [Ed.elR, Ed.cmV, rowN, ht1, decide_eq_true h1, List.map_cons, List.map_nil, Ed.cmR, Bool.not_true, evSt, ↓evPre, ↓evPreW, evPost, evPostW, evR, evU, seval]
    refine (hnum _).then ?_
    by_cases h0 : (numF t).2 = 0
    · have he : elF a = some na := by rw [hna, ht1, elF_one h0]; rfl
      have hv : (numF t).1 = na := by rw [hna, ht1, elF_one h0]; rfl
      simp (disch := first | omega | (simp only [lenT]; omega)) only [decide_eq_true h0, hv, Bool.not_true, evSt, ↓evPre, ↓evPreW, evPost, evPostW, evR, evU, seval]
      rw [ht1] at he
      exact ⟨1, ⟨by omega, fun _ => he, fun h => by omega, fun h => by omega, fun h => by omega⟩, by omega, by decide, rfl⟩
    · rw [none_a (by rw [ht1]; exact elF_bad h0)]
      simp (disch := first | omega | (simp only [lenT]; omega)) only [decide_eq_false h0, Bool.not_false, evSt, ↓evPre, ↓evPreW, evPost, evPostW, evR, evU, seval]
      exact fin0 _
  | 1, _, ia, ib, ic, id =>
    by_cases h1 : (((b : List Tx).length : Nat) : Int) = 1
    case neg =>
      rw [none_b (elF_len (by omega))]
      simp (disch := first | omega | (simp only [lenT]; omega)) only [Ed.elR, Ed.cmV, rowN, decide_eq_false h1, Bool.not_false, evSt, ↓evPre, ↓evPreW, evPost, evPostW, evR, evU, seval]
      exact fin0 _
    obtain ⟨t, ht1⟩ : ∃ t, b = [t] := by
      match b, h1 with
      | [t], _ => exact ⟨t, rfl⟩
    have hnum := fun S => number_A t (hb.2 t (by rw [ht1]; simp)) S
    rw [ht1] at h1
    simp (disch := first | omega | (simp only [lenT]; omega)) only [Ed.elR, Ed.cmV, rowN, ht1, decide_eq_true h1, List.map_cons, List.map_nil, Ed.cmR, Bool.not_true, evSt, ↓evPre, ↓evPreW, evPost, evPostW, evR, evU, seval]
    refine (hnum _).then ?_
    by_cases h0 : (numF t).2 = 0
    · have he : elF b = some nb := by rw [hnb, ht1, elF_one h0]; rfl
      have hv : (numF t).1 = nb := by rw [hnb, ht1, elF_one h0]; rfl
      simp (disch := first | omega | (simp only [lenT]; omega)) only [decide_eq_true h0, hv, Bool.not_true, evSt, ↓evPre, ↓evPreW, evPost, evPostW, evR, evU, seval]
      rw [ht1] at he
      exact ⟨2, ⟨by omega, fun _ => ia (by omega), fun _ => he, fun h => by omega, fun h => by omega⟩, by omega, by decide, rfl⟩
    · rw [none_b (by rw [ht1]; exact elF_bad h0)]
      simp (disch := first | omega | (simp only [lenT]; omega)) only [decide_eq_false h0, Bool.not_false, evSt, ↓evPre, ↓evPreW, evPost, evPostW, evR, evU, seval]
      exact fin0 _
  | 2, _, ia, ib, ic, id =>
    by_cases h1 : (((c : List Tx).length : Nat) : Int) = 1
    case neg =>
      rw [none_c (elF_len (by omega))]
      simp (disch := first | omega | (simp only [lenT]; omega)) only [Ed.elR, Ed.cmV, rowN, decide_eq_false h1, Bool.not_false, evSt, ↓evPre, ↓evPreW, evPost, evPostW, evR, evU, seval]
      exact fin0 _
    obtain ⟨t, ht1⟩ : ∃ t, c = [t] := by
      match c, h1 with
      | [t], _ => exact ⟨t, rfl⟩
    have hnum := fun S => number_A t (hc.2 t (by rw [ht1]; simp)) S
    rw [ht1] at h1
    simp (disch := first | omega | (simp only [lenT]; omega)) only [Ed.elR, Ed.cmV, rowN, ht1, decide_eq_true h1, List.map_cons, List.map_nil, Ed.cmR, Bool.not_true, evSt, ↓evPre, ↓evPreW, evPost, evPostW, evR, evU, seval]
    refine (hnum _).then ?_
    by_cases h0 : (numF t).2 = 0
    · have he : elF c = some nc := by rw [hnc, ht1, elF_one h0]; rfl
      have hv : (numF t).1 = nc := by rw [hnc, ht1, elF_one h0]; rfl
      simp (disch := first | omega | (simp only [lenT]; omega)) only [decide_eq_true h0, hv, Bool.not_true, evSt, ↓evPre, ↓evPreW, evPost, evPostW, evR, evU, seval]
      rw [ht1] at he
      exact ⟨3, ⟨by omega, fun _ => ia (by omega), fun _ => ib (by omega), fun _ => he, fun h => by omega⟩, by omega, by decide, rfl⟩
    · rw [none_c (by rw [ht1]; exact elF_bad h0)]
      simp (disch := first | omega | (simp only [lenT]; omega)) only [decide_eq_false h0, Bool.not_false, evSt, ↓evPre, ↓evPreW, evPost, evPostW, evR, evU, seval]
      exact fin0 _
  | 3, _, ia, ib, ic, id =>
    by_cases h1 : (((d : List Tx).length : Nat) : Int) = 1
    case neg =>
      rw [none_d (elF_len (by omega))]
      simp (disch := first | omega | (simp only [lenT]; omega)) only [Ed.elR, Ed.cmV, rowN, decide_eq_false h1, Bool.not_false, evSt, ↓evPre, ↓evPreW, evPost, evPostW, evR, evU, seval]
      exact fin0 _
    obtain ⟨t, ht1⟩ : ∃ t, d = [t] := by
      match d, h1 with
      | [t], _ => exact ⟨t, rfl⟩
    have hnum := fun S => number_A t (hd.2 t (by rw [ht1]; simp)) S
    rw [ht1] at h1
    simp (disch := first | omega | (simp only [lenT]; omega)) only [Ed.elR, Ed.cmV, rowN, ht1, decide_eq_true h1, List.map_cons, List.map_nil, Ed.cmR, Bool.not_true, evSt, ↓evPre, ↓evPreW, evPost, evPostW, evR, evU, seval]
    refine (hnum _).then ?_
    by_cases h0 : (numF t).2 = 0
    · have he : elF d = some nd := by rw [hnd, ht1, elF_one h0]; rfl
      have hv : (numF t).1 = nd := by rw [hnd, ht1, elF_one h0]; rfl
      simp (disch := first | omega | (simp only [lenT]; omega)) only [decide_eq_true h0, hv, Bool.not_true, evSt, ↓evPre, ↓evPreW, evPost, evPostW, evR, evU, seval]
      rw [ht1] at he
      exact ⟨4, ⟨by omega, fun _ => ia (by omega), fun _ => ib (by omega), fun _ => ic (by omega), fun _ => he⟩, by omega, by decide, rfl⟩
    · rw [none_d (by rw [ht1]; exact elF_bad h0)]
      simp (disch := first | omega | (simp only [lenT]; omega)) only [decide_eq_false h0, Bool.not_false, evSt, ↓evPre, ↓evPreW, evPost, evPostW, evR, evU, seval]
      exact fin0 _
  | 4, _, ia, ib, ic, id =>
    rw [ia (by omega), ib (by omega), ic (by omega), id (by omega)] at hR
    rw [← hR]
    simp (disch := first | omega | (simp only [lenT]; omega)) only [rowN, evSt, ↓evPre, ↓evPreW, evPost, evPostW, evR, evU, seval]
    exact ⟨_, S, hn.fgt _, .imm rfl, Nat.le_refl _, rfl, rfl⟩
end Go.Proofs.YtlnpfnoemhjheaaGreatDoor
/- States as messages: what the program reads, whole. -/
namespace Go.Proofs.YtlnpfnoemhjheaaGreatDoor
open Go Go.AL
set_option linter.unusedSectionVars false
variable [Go.AL.Mode] [Go.AL.LooseM]
set_option linter.unusedSimpArgs false
set_option linter.unusedVariables false
def allF : List Ed.Ln → Option (List St)
  | [] => some []
  | x :: r => match stateF x, allF r with
    | some a, some b => some (a :: b)
    | _, _ => none
theorem allF_snoc (l : List Ed.Ln) (x : Ed.Ln) : allF (l ++ [x]) = match allF l, stateF x with
    | some b, some a => some (b ++ [a])
    | _, _ => none := by
  induction l with
  | nil =>
    simp only [List.nil_append, allF]
    cases stateF x <;> rfl
  | cons y l ih =>
    simp only [List.cons_append, allF, ih]
    cases stateF y <;> cases allF l <;> cases stateF x <;> rfl
theorem allF_none {l : List Ed.Ln} {x : Ed.Ln} (hx : x ∈ l) (h : stateF x = none) : allF l = none := by
  induction l with
  | nil => cases hx
  | cons y l ih =>
    rcases List.mem_cons.1 hx with rfl | hx
    · rw [allF, h]
    · rw [allF, ih hx]
      cases stateF y <;> rfl
theorem allF_of : ∀ (l : List St), (∀ x ∈ l, okX x) → allF (l.map lnOf) = some l
  | [], _ => rfl
  | x :: l, h => by
    rw [List.map_cons, allF, stateF_of x (h x (.head _)), allF_of l fun y hy => h y (.tail _ hy)]
def decF (s : Tx) : List St × Int := if (Ed.parsed s).2.2 ≠ 0 then ([], 3) else match allF (Ed.parsed s).1 with
  | some l => (l, 0)
  | none => ([], 3)
theorem small_parts {l : List Ed.Ln} (h : Ed.szL l ≤ 200000) : l.length ≤ 200000 ∧ ∀ x ∈ l, x.els.length ≤ 1000000 ∧ ∀ e ∈ x.els, e.length ≤ 1000000 ∧ ∀ c ∈ e, c.length ≤ 1000000 := by
  unfold Ed.szL at h
  refine ⟨by omega, fun x hx => ?_⟩
  have h1 := Ed.sum_mem_le Ed.szX hx
  have h2 : Ed.szX x ≤ 200000 := by omega
  unfold Ed.szX at h2
  refine ⟨by omega, fun e he => ?_⟩
  have h3 := Ed.sum_mem_le Ed.szE he
  have h4 : Ed.szE e ≤ 200000 := by omega
  unfold Ed.szE at h4
  refine ⟨by omega, fun c hc => ?_⟩
  have h5 := Ed.sum_mem_le List.length hc
  omega
set_option maxHeartbeats 2000000 in
theorem decode_A (s : Tx) (S : Store) : CallA Tryz.prog 8 [.str s] S fun r S' => r = .tup [stSl (decF s).1, .int .i64 (decF s).2] ∧ S' = S := by
  refine CallA.withNeat Tryz.func8 c9008 fun hn => ?_
  refine CallA.fin Tryz.func8 c9008 (Nat.le_of_ble_eq_true rfl) fun σ hσ => ?_
  have hp := fun S => Ed.parse_A s S
  rw [Ed.parseV_eq] at hp
  have hsz : (Ed.parsed s).2.2 = 0 → Ed.szL (Ed.parsed s).1 ≤ 200000 := fun h => by
    by_cases hl : s.length ≤ 65536
    · have := Ed.parsed_sz s hl
      omega
    · unfold Ed.parsed at h
      rw [if_pos (by omega)] at h
      cases h
  have hdec : decF s = if (Ed.parsed s).2.2 ≠ 0 then (([], 3) : List St × Int) else match allF (Ed.parsed s).1 with
    | some l => (l, 0)
    | none => ([], 3) := rfl
  generalize decF s = D at hdec ⊢
  generalize Ed.parsed s = pr at hp hsz hdec
  obtain ⟨ls, n, e⟩ := pr
  simp only at hp hsz hdec
  unfold Ed.lnV at hp
  simp (disch := first | omega | (simp only [lenT]; omega)) only [a9008, evSt, ↓evPre, ↓evPreW, evPost, evPostW, evR, evU, seval]
  refine (hp S).then ?_
  by_cases he : e = 0
  case neg =>
    rw [hdec, if_pos he]
    simp (disch := first | omega | (simp only [lenT]; omega)) only [decide_eq_false he, Bool.not_false, evSt, ↓evPre, ↓evPreW, evPost, evPostW, evR, evU, seval]
    exact ⟨_, S, hn.self, .tup2 .nil (.imm rfl), Nat.le_refl _, rfl, rfl⟩
  obtain ⟨hl1, hl2⟩ := small_parts (hsz he)
  rw [hdec, if_neg (by simpa using he)]
  clear hdec hsz hp
  simp (disch := first | omega | (simp only [lenT]; omega)) only [decide_eq_true he, Bool.not_true, evSt, ↓evPre, ↓evPreW, evPost, evPostW, evR, evU, seval]
  refine loopA (ι := Nat × List St × V × Store) (fun i => [(7, i.2.2.1), (20, .sl 2 (ls.map Ed.lnR)), (21, .int .i64 ls.length), (22, .int .i64 (i.1 : Nat))]) (fun i => i.2.2.2)
    (fun i => i.1 ≤ ls.length ∧ allF (ls.take i.1) = some i.2.1 ∧ i.2.1.length ≤ i.1 ∧ LG S 41 4 (i.2.1.map stR) i.2.2.1 i.2.2.2) (fun i => ls.length - i.1) (0, [], .nilSl, S) ⟨Nat.zero_le _, rfl, Nat.le_refl _, LG.nil0⟩ ?_ rfl ?_
  · simp only [↓evPre, ↓evPreW, evPost, evPostW, evR, evU, seval]
    try rfl
  rintro ⟨k, l1, v, S1⟩ ⟨hk, ha, hll, hg⟩
  simp only at hk ha hll hg ⊢
  cases hc : ls[k]? with
  | none =>
    have hge := List.getElem?_eq_none_iff.1 hc
    have hlt : ¬ ((k : Int) < ls.length) := by omega
    rw [List.take_of_length_le hge] at ha
    simp (disch := first | omega | (simp only [lenT]; omega)) only [decide_eq_false hlt, evSt, ↓evPre, ↓evPreW, evPost, evPostW, evR, evU, seval]
    have hfin := hg.fin hn (stR_imm _)
    exact ⟨_, S, hfin.1, .tup2 hfin.2 (.imm rfl), Nat.le_refl _, by rw [ha]; rfl, rfl⟩
  | some x =>
    have hlt' := (List.getElem?_eq_some_iff.1 hc).1
    have hlt : (k : Int) < ls.length := by omega
    have hk1 : (k : Int) + 1 = ((k + 1 : Nat) : Int) := by omega
    have hxm := List.mem_of_getElem? hc
    have hst := fun S => state_A x (hl2 x hxm).1 (hl2 x hxm).2 S
    have htk : ls.take (k + 1) = ls.take k ++ [x] := by rw [List.take_add_one, hc]; rfl
    simp only [Ed.lnR, Ed.elV] at hst
    simp (disch := first | omega | (simp only [lenT]; omega)) only [decide_eq_true hlt, hc, Ed.lnR, Ed.elV, evSt, ↓evPre, ↓evPreW, evPost, evPostW, evR, evU, seval]
    refine (hst _).then ?_
    cases hsx : stateF x with
    | none =>
      rw [allF_none hxm hsx]
      simp (disch := first | omega | (simp only [lenT]; omega)) only [stateV, stV, stZ, stR, Bool.not_false, evSt, ↓evPre, ↓evPreW, evPost, evPostW, evR, evU, seval]
      exact ⟨_, S, (hg.add _).fgt hn, .tup2 .nil (.imm rfl), Nat.le_refl _, rfl, rfl⟩
    | some y =>
      have ha2 : allF (ls.take (k + 1)) = some (l1 ++ [y]) := by rw [htk, allF_snoc, ha, hsx]
      simp (disch := first | omega | (simp only [lenT]; omega)) only [stateV, stV, stR, Bool.not_true, evSt, ↓evPre, ↓evPreW, evPost, evPostW, evR, evU, seval]
      refine (hg.add _).app (by simp; omega) fun v' S2 h2 => ?_
      rw [show [[V.int .i64 y.t, V.int .i64 y.c, V.int .i64 y.v, V.int .i64 y.s]] = [y].map stR from rfl, ← List.map_append] at h2
      simp (disch := first | omega | (simp only [lenT]; omega)) only [wrap_i64, hk1, evSt, ↓evPre, ↓evPreW, evPost, evPostW, evR, evU, seval]
      refine ⟨(k + 1, l1 ++ [y], v', S2), ⟨by simp only; omega, ha2, by simp only [List.length_append, List.length_singleton]; omega, h2⟩, by simp only; omega, ?_⟩
      first | exact ⟨⟨rfl, rfl, rfl⟩, rfl⟩ | exact ⟨rfl, rfl⟩ | (simp only [Ed.lnR, Ed.elV, ↓evPre, ↓evPreW, evPost, evPostW, evR, evU, seval]; try exact ⟨rfl, rfl⟩)
end Go.Proofs.YtlnpfnoemhjheaaGreatDoor
