/- Departure: the examples that keep a statement awake. -/
import Derived.WalkKit
import Derived.Lib.SmallJoins
import Derived.Test.YtlnpfnoemhjheaaGreatDoorMRnC
import Derived.Test.YtlnpfnoemhjheaaGreatDoorMAlM
import Derived.Test.YtlnpfnoemhjheaaGreatDoorMAlX
import Derived.Below
import Derived.Test.YtlnpfnoemhjheaaGreatDoorMAlB
import Derived.CallsIn
namespace Go.Proofs.YtlnpfnoemhjheaaGreatDoor
open Go Go.AL
set_option linter.unusedSectionVars false
variable [Go.AL.Mode] [Go.AL.LooseM]
set_option linter.unusedSimpArgs false
set_option linter.unusedVariables false
namespace Pe
theorem dT {p : Prop} [Decidable p] (h : p) : decide p = true := decide_eq_true h
theorem dF {p : Prop} [Decidable p] (h : ¬ p) : decide p = false := decide_eq_false h
end Pe
theorem length_raw (w : World) (hc : w.cell? ⟨0, 0, none⟩ = some (.int .i64 31)) : Calls Tryz.prog 93 #[.int .i64 2026, .int .i64 1] w fun e w' => e = .returned (.int .i64 31) ∧ w' = w := by
  go_enter Tryz.func93, Tryz.ntmps93
  go_wp2
  all_goals first
    | (go_ret; exact ⟨rfl, rfl⟩)
    | (exfalso; simp_all)
theorem length_A (S : Store) : CallA Tryz.prog 93 [.int .i64 2026, .int .i64 1] S fun r S' => r = .int .i64 31 ∧ S' = S := by
  refine ⟨⟨_, Tryz.func93, by kernel_rfl, by kernel_rfl⟩, fun ρ w us hi hv => ?_⟩
  obtain ⟨u, x, rfl, hu, hx⟩ := hv.two
  cases hu
  cases hx
  obtain ⟨_, t, fr, hh⟩ := hi.tab _ (List.mem_cons_self ..)
  have hh' : w.heap[0]? = _ := hh
  have hl : w.cell? ⟨0, 0, none⟩ = some (.int .i64 31) := by
    simp only [World.cell?, hh']
    rfl
  refine (length_raw w hl).mono fun en w' ⟨he, hw⟩ => ?_
  subst hw
  exact ⟨ρ, S, _, _, he, .int, hi, AL.Ext.refl _ _ _, rfl, rfl⟩
theorem first_A (y v : Int) (h0 : 2000 ≤ y) (h1 : y ≤ 2100) (hv : v = 365 * (y - 2000) + (y - 2000 + 3) / 4) (S : Store) : CallA Tryz.prog 92 [.int .i64 y] S fun r S' => r = .int .i64 v ∧ S' = S := by
  refine CallA.keep Tryz.func92 c7053 (Nat.le_of_ble_eq_true rfl) fun σ hσ => ?_
  have e4 : (y - 2000 + 3).tdiv 4 = (y - 2000 + 3) / 4 := Int.tdiv_eq_ediv_of_nonneg (by omega)
  simp (disch := first | omega | (simp only [lenT]; omega)) only [a7053, e4, wrap_i64, evSt, ↓evPre, ↓evPreW, evPost, evPostW, evR, evU, seval]
  omega
set_option maxRecDepth 10000 in
theorem date_A (S : Store) : CallA Tryz.prog 65 [.int .i64 9497] S fun r S' => r = .tup [.int .i64 2026, .int .i64 1, .int .i64 1] ∧ S' = S := by
  refine CallA.keep Tryz.func65 c7041 (Nat.le_of_ble_eq_true rfl) fun σ hσ => ?_
  have e366 : (9497 : Int).tdiv 366 = 25 := by decide
  simp (disch := first | omega | (simp only [lenT]; omega)) only [a7041, e366, wrap_i64, evSt, ↓evPre, ↓evPreW, evPost, evPostW, evR, evU, seval]
  refine loopA (ι := Bool) (fun q => [(0, .int .i64 9497), (5, .int .i64 (if q = true then 2026 else 2025))]) (fun _ => S) (fun _ => True) (fun q => if q = true then 0 else 1) false trivial ?_ rfl ?_
  · simp only [↓evPre, ↓evPreW, evPost, evPostW, evR, evU, seval]
    try rfl
  intro q _
  cases q
  · simp (disch := first | omega | (simp only [lenT]; omega)) only [Bool.false_eq_true, if_false, wrap_i64, evSt, ↓evPre, ↓evPreW, evPost, evPostW, evR, evU, seval]
    refine (first_A 2026 9497 (by decide) (by decide) (by decide) S).then ?_
    simp (disch := first | omega | (simp only [lenT]; omega)) only [wrap_i64, evSt, ↓evPre, ↓evPreW, evPost, evPostW, evR, evU, seval]
    refine ⟨true, by decide, ?_⟩
    first | rfl | exact ⟨rfl, rfl⟩ | exact ⟨rfl, rfl, rfl⟩ | simp
  · simp (disch := first | omega | (simp only [lenT]; omega)) only [if_true, wrap_i64, evSt, ↓evPre, ↓evPreW, evPost, evPostW, evR, evU, seval]
    refine (first_A 2027 9862 (by decide) (by decide) (by decide) S).then ?_
    simp (disch := first | omega | (simp only [lenT]; omega)) only [wrap_i64, evSt, ↓evPre, ↓evPreW, evPost, evPostW, evR, evU, seval]
    refine (first_A 2026 9497 (by decide) (by decide) (by decide) S).then ?_
    simp (disch := first | omega | (simp only [lenT]; omega)) only [wrap_i64, evSt, ↓evPre, ↓evPreW, evPost, evPostW, evR, evU, seval]
    refine loopA (ι := Unit) (fun q => [(5, .int .i64 2026), (6, .int .i64 0), (29, .int .i64 0)]) (fun _ => S) (fun _ => True) (fun q => 0) () trivial ?_ rfl ?_
    · simp only [↓evPre, ↓evPreW, evPost, evPostW, evR, evU, seval]
      try rfl
    intro q _
    simp (disch := first | omega | (simp only [lenT]; omega)) only [wrap_i64, evSt, ↓evPre, ↓evPreW, evPost, evPostW, evR, evU, seval]
    refine (length_A S).then ?_
    simp (disch := first | omega | (simp only [lenT]; omega)) only [wrap_i64, evSt, ↓evPre, ↓evPreW, evPost, evPostW, evR, evU, seval]
def twoB (n : Nat) : List UInt8 := [UInt8.ofNat (48 + n / 10), UInt8.ofNat (48 + n % 10)]
theorem two_A (n : Nat) (hn : n < 1000000) (S : Store) : CallA Tryz.prog 66 [.int .i64 n] S fun r S' => r = .str (twoB n) ∧ S' = S := by
  refine CallA.keep Tryz.func66 c7042 (Nat.le_of_ble_eq_true rfl) fun σ hσ => ?_
  have e1 : (n : Int).tdiv 10 = ((n / 10 : Nat) : Int) := by rw [Int.tdiv_eq_ediv_of_nonneg (by omega)]; omega
  have e2 : (n : Int).tmod 10 = ((n % 10 : Nat) : Int) := by rw [Int.tmod_eq_emod_of_nonneg (by omega)]; omega
  have u : ∀ a : Nat, IntKind.u8.wrap (48 + (a : Int)) = (((UInt8.ofNat (48 + a)).toNat : Nat) : Int) := fun a => by
    simp only [IntKind.wrap, IntKind.signed, IntKind.bits, UInt8.toNat_ofNat']
    simp
  have hb : b2sV S (.sl 1 [[.int .u8 (IntKind.u8.wrap (48 + (n / 10 : Nat)))], [.int .u8 (IntKind.u8.wrap (48 + (n % 10 : Nat)))]]) = some (.str (twoB n)) := by
    rw [u, u]
    exact b2s_sl (l := twoB n)
  simp (disch := first | omega | (simp only [lenT]; omega)) only [a7042, e1, e2, hb, wrap_i64, evSt, ↓evPre, ↓evPreW, evPost, evPostW, evR, evU, seval]
set_option maxRecDepth 10000 in
theorem print_A (S : Store) : CallA Tryz.prog 32 [.int .i64 9497] S fun r S' => r = .str [50, 48, 50, 54, 45, 48, 49, 45, 48, 49] ∧ S' = S := by
  refine CallA.keep Tryz.func32 c7021 (Nat.le_of_ble_eq_true rfl) fun σ hσ => ?_
  have e1 : (2026 : Int).tdiv 100 = 20 := by decide
  have e2 : (2026 : Int).tmod 100 = 26 := by decide
  simp (disch := first | omega | (simp only [lenT]; omega)) only [a7021, evSt, ↓evPre, ↓evPreW, evPost, evPostW, evR, evU, seval]
  refine (date_A S).then ?_
  simp (disch := first | omega | (simp only [lenT]; omega)) only [e1, evSt, ↓evPre, ↓evPreW, evPost, evPostW, evR, evU, seval]
  refine (two_A 20 (by decide) S).then ?_
  simp (disch := first | omega | (simp only [lenT]; omega)) only [e2, evSt, ↓evPre, ↓evPreW, evPost, evPostW, evR, evU, seval]
  refine (two_A 26 (by decide) S).then ?_
  have b1 : binV .add (.str (twoB 20)) (.str (twoB 26)) = some (.str (twoB 20 ++ twoB 26)) := bs_add (Nat.le_of_ble_eq_true rfl)
  have b2 : binV .add (.str (twoB 20 ++ twoB 26)) (.str [45]) = some (.str (twoB 20 ++ twoB 26 ++ [45])) := bs_add (Nat.le_of_ble_eq_true rfl)
  have b3 : binV .add (.str (twoB 20 ++ twoB 26 ++ [45])) (.str (twoB 1)) = some (.str (twoB 20 ++ twoB 26 ++ [45] ++ twoB 1)) := bs_add (Nat.le_of_ble_eq_true rfl)
  have b4 : binV .add (.str (twoB 20 ++ twoB 26 ++ [45] ++ twoB 1)) (.str [45]) = some (.str (twoB 20 ++ twoB 26 ++ [45] ++ twoB 1 ++ [45])) := bs_add (Nat.le_of_ble_eq_true rfl)
  have b5 : binV .add (.str (twoB 20 ++ twoB 26 ++ [45] ++ twoB 1 ++ [45])) (.str (twoB 1)) = some (.str [50, 48, 50, 54, 45, 48, 49, 45, 48, 49]) := bs_add (Nat.le_of_ble_eq_true rfl)
  simp (disch := first | omega | (simp only [lenT]; omega)) only [b1, b2, evSt, ↓evPre, ↓evPreW, evPost, evPostW, evR, evU, seval]
  refine (two_A 1 (by decide) S).then ?_
  simp (disch := first | omega | (simp only [lenT]; omega)) only [b3, b4, evSt, ↓evPre, ↓evPreW, evPost, evPostW, evR, evU, seval]
  refine (two_A 1 (by decide) S).then ?_
  simp (disch := first | omega | (simp only [lenT]; omega)) only [b5, evSt, ↓evPre, ↓evPreW, evPost, evPostW, evR, evU, seval]
theorem zlocal_A (S : Store) : CallA Tryz.prog 34 [.agg [.int .i64 60, .nilSl], .int .i64 5] S fun r S' => r = .int .i64 65 ∧ S' = S := by
  have of : CallA Tryz.prog 68 [.agg [.int .i64 60, .nilSl], .int .i64 5] S fun r S' => r = .int .i64 60 ∧ S' = S := by
    refine CallA.keep Tryz.func68 c7044 (Nat.le_of_ble_eq_true rfl) fun σ hσ => ?_
    simp (disch := first | omega | (simp only [lenT]; omega)) only [a7044, evSt, ↓evPre, ↓evPreW, evPost, evPostW, evR, evU, seval]
    refine loopA (ι := Unit) (fun _ => [(5, .int .i64 60), (12, .int .i64 0), (13, .int .i64 0)]) (fun _ => S) (fun _ => True) (fun _ => 0) () trivial ?_ rfl ?_
    · simp only [↓evPre, ↓evPreW, evPost, evPostW, evR, evU, seval]
      try rfl
    intro q _
    simp (disch := first | omega | (simp only [lenT]; omega)) only [wrap_i64, evSt, ↓evPre, ↓evPreW, evPost, evPostW, evR, evU, seval]
  refine CallA.keep Tryz.func34 c7023 (Nat.le_of_ble_eq_true rfl) fun σ hσ => ?_
  simp (disch := first | omega | (simp only [lenT]; omega)) only [a7023, evSt, ↓evPre, ↓evPreW, evPost, evPostW, evR, evU, seval]
  refine of.then ?_
  simp (disch := first | omega | (simp only [lenT]; omega)) only [wrap_i64, evSt, ↓evPre, ↓evPreW, evPost, evPostW, evR, evU, seval]
end Go.Proofs.YtlnpfnoemhjheaaGreatDoor
/- Departure: a period's days: leaves. -/
namespace Go.Proofs.YtlnpfnoemhjheaaGreatDoor
open Go Go.AL
set_option linter.unusedSectionVars false
variable [Go.AL.Mode] [Go.AL.LooseM]
set_option linter.unusedSimpArgs false
set_option linter.unusedVariables false
namespace Pe
structure Pd where
  f : Int
  t : Int
  d : Int
def pdR (p : Pd) : List V := [.int .i64 p.f, .int .i64 p.t, .int .i64 p.d]
def pdF (p : Pd) : Int := if p.f < 0 ∨ p.t < p.f ∨ 36525 ≤ p.t then 12 else if 800 ≤ p.t - p.f then 4 else if p.d < 1 ∨ 127 < p.d then 2 else 0
def wday (d : Int) : Nat := ((d % 7 + 12) % 7).toNat
def onF (ds d : Int) : Bool := decide (ds / 2 ^ wday d % 2 = 1)
def daysF (p : Pd) : List Int := if pdF p = 0 then ((List.range (p.t - p.f + 1).toNat).map fun k => p.f + (k : Nat)).filter (onF p.d) else []
theorem tmod7 (d : Int) : ((d.tmod 7) + 12).tmod 7 = ((wday d : Nat) : Int) ∧ -6 ≤ d.tmod 7 ∧ d.tmod 7 ≤ 6 := by
  have h1 : d.tmod 7 = d % 7 ∨ d.tmod 7 = d % 7 - 7 := by
    rcases Int.le_total 0 d with h | h
    · exact .inl (Int.tmod_eq_emod_of_nonneg h)
    · have e : d = -(-d) := by omega
      have h2 : d.tmod 7 = -((-d).tmod 7) := by conv => lhs; rw [e, Int.neg_tmod]
      have h3 : (-d).tmod 7 = (-d) % 7 := Int.tmod_eq_emod_of_nonneg (by omega)
      omega
  have h0 : -6 ≤ d.tmod 7 ∧ d.tmod 7 ≤ 6 := by
    rcases Int.le_total 0 d with h | h
    · have : d.tmod 7 = d % 7 := Int.tmod_eq_emod_of_nonneg h
      omega
    · have e : d = -(-d) := by omega
      have h2 : d.tmod 7 = -((-d).tmod 7) := by conv => lhs; rw [e, Int.neg_tmod]
      have h3 : (-d).tmod 7 = (-d) % 7 := Int.tmod_eq_emod_of_nonneg (by omega)
      omega
  refine ⟨?_, h0⟩
  rw [Int.tmod_eq_emod_of_nonneg (by omega)]
  unfold wday
  omega
theorem wday_lt (d : Int) : wday d < 7 := by unfold wday; omega
theorem weekday_A (d : Int) (S : Store) : CallA Tryz.prog 118 [.int .i64 d] S fun r S' => r = .int .i64 (wday d : Nat) ∧ S' = S := by
  obtain ⟨h1, h2, h3⟩ := tmod7 d
  refine CallA.keep Tryz.func118 c7064 (Nat.le_of_ble_eq_true rfl) fun σ hσ => ?_
  have := wday_lt d
  simp (disch := first | omega | (simp only [lenT]; omega)) only [a7064, wrap_i64, h1, ↓evPre, ↓evPreW, evPost, evPostW, evR, evU, seval]
theorem check_A (p : Pd) (S : Store) : CallA Tryz.prog 95 [.agg (pdR p)] S fun r S' => r = .int .i64 (pdF p) ∧ S' = S := by
  refine CallA.keep Tryz.func95 c7056 (Nat.le_of_ble_eq_true rfl) fun σ hσ => ?_
  unfold pdF
  by_cases h1 : p.f < 0
  · simp only [a7056, pdR, dT h1, h1, true_or, if_true, evSt, ↓evPre, ↓evPreW, evPost, evPostW, evR, evU, seval]
  by_cases h2 : p.t < p.f
  · simp only [a7056, pdR, dF h1, dT h2, h1, h2, true_or, or_true, if_true, evSt, ↓evPre, ↓evPreW, evPost, evPostW, evR, evU, seval]
  by_cases h3 : 36525 ≤ p.t
  · simp only [a7056, pdR, dF h1, dF h2, dT h3, h1, h2, h3, true_or, or_true, if_true, evSt, ↓evPre, ↓evPreW, evPost, evPostW, evR, evU, seval]
  by_cases h4 : 800 ≤ p.t - p.f
  · simp (disch := first | omega | (simp only [lenT]; omega)) only [a7056, pdR, dF h1, dF h2, dF h3, dT h4, h1, h2, h3, h4, wrap_i64, or_self, if_false, if_true, evSt, ↓evPre, ↓evPreW, evPost, evPostW, evR, evU, seval]
  by_cases h5 : p.d < 1
  · simp (disch := first | omega | (simp only [lenT]; omega)) only [a7056, pdR, dF h1, dF h2, dF h3, dF h4, dT h5, h1, h2, h3, h4, h5, wrap_i64, or_self, true_or, if_false, if_true, evSt, ↓evPre, ↓evPreW, evPost, evPostW, evR, evU, seval]
  by_cases h6 : 127 < p.d
  · simp (disch := first | omega | (simp only [lenT]; omega)) only [a7056, pdR, dF h1, dF h2, dF h3, dF h4, dF h5, dT h6, h1, h2, h3, h4, h5, h6, wrap_i64, or_self, or_true, if_false, if_true, evSt, ↓evPre, ↓evPreW, evPost, evPostW, evR, evU, seval]
  simp (disch := first | omega | (simp only [lenT]; omega)) only [a7056, pdR, dF h1, dF h2, dF h3, dF h4, dF h5, dF h6, h1, h2, h3, h4, h5, h6, wrap_i64, or_self, if_false, evSt, ↓evPre, ↓evPreW, evPost, evPostW, evR, evU, seval]
theorem pd_ok {p : Pd} (h : pdF p = 0) : 0 ≤ p.f ∧ p.f ≤ p.t ∧ p.t < 36525 ∧ p.t - p.f < 800 ∧ 1 ≤ p.d ∧ p.d ≤ 127 := by
  unfold pdF at h
  split at h
  · cases h
  · split at h
    · cases h
    · split at h
      · cases h
      · omega
theorem on_bits : ∀ m : Nat, m < 128 → IntKind.i64.wrap ((BitVec.ofInt IntKind.i64.bits (m : Int) &&& BitVec.ofInt IntKind.i64.bits 1).toNat : Nat) = (m : Int) % 2 := by decide +kernel
theorem shr_A (d : Int) {k : Nat} (hk : k < 7) : shiftV false .i64 d (k : Nat) = some (.int .i64 (d / 2 ^ k)) := by
  have e : min ((k : Int).toNat) IntKind.i64.bits = k := by
    have : IntKind.i64.bits = 64 := rfl
    rw [this]; omega
  unfold shiftV
  rw [if_pos (by omega), e, Int.fdiv_eq_ediv_of_nonneg _ (Int.pow_nonneg (by decide))]
  rfl
theorem div_small {d : Int} (h0 : 0 ≤ d) (h1 : d ≤ 127) (k : Nat) : 0 ≤ d / 2 ^ k ∧ d / 2 ^ k ≤ 127 := by
  have hp : (0 : Int) < 2 ^ k := Int.pow_pos (by decide)
  refine ⟨Int.ediv_nonneg h0 (by omega), ?_⟩
  have := Int.ediv_le_self (2 ^ k) h0
  omega
theorem on_A (d : Int) (h0 : 1 ≤ d) (h1 : d ≤ 127) (day : Int) (S : Store) : CallA Tryz.prog 96 [.int .i64 d, .int .i64 day] S fun r S' => r = .bool (onF d day) ∧ S' = S := by
  refine CallA.keep Tryz.func96 c7057 (Nat.le_of_ble_eq_true rfl) fun σ hσ => ?_
  simp only [a7057, ↓evPre, ↓evPreW, evPost, evPostW, evR, evU, seval]
  refine (weekday_A day S).then ?_
  obtain ⟨m, hm⟩ := Int.eq_ofNat_of_zero_le (div_small (by omega) h1 (wday day)).1
  have hb := on_bits m (by have := (div_small (by omega : 0 ≤ d) h1 (wday day)).2; omega)
  simp (disch := first | omega | (simp only [lenT]; omega)) only [shr_A d (wday_lt day), hm, hb, ↓evPre, ↓evPreW, evPost, evPostW, evR, evU, seval]
  simp only [onF, hm, and_self]
theorem inv_none {W : World} (ht : TabOk noPlace [] W) : Inv noPlace [] W :=
  ⟨fun id ver e sz rows hs => by simp at hs, fun i j o p c d g x y ho => by simp at ho, fun id ver rows hs => by simp at hs, ht⟩
theorem grown_ext {W W' : World} {ρ' : AL.Place} {S' : Store} (hx : Ext noPlace [] W ρ' S' W') : W.grownBy W' none :=
  ⟨hx.os, hx.tape.1, hx.output, hx.size, fun k hk _ => (hx.un k (un_none hk)).2⟩
theorem tab_keep {n₀ : Nat} {W W' : World} (h : TabOk noPlace [] W) (hn : ∀ p ∈ tabs, p.1 < n₀) (hb : RowKit.Below n₀ W W') : TabOk noPlace [] W' := fun p hp => by
  obtain ⟨h1, t, fr, h2⟩ := h p hp
  exact ⟨⟨Nat.lt_of_lt_of_le h1.1 hb.size, fun id o c g' tot ho => by simp at ho⟩, t, fr, (hb.block p.1 (hn p hp)).trans h2⟩
theorem tab_lt {ρ : AL.Place} {S : Store} {W : World} (h : TabOk ρ S W) : ∀ p ∈ tabs, p.1 < W.heap.size := fun p hp => (h p hp).1.1
theorem tab_none {ρ : AL.Place} {S : Store} {W : World} (h : TabOk ρ S W) : TabOk noPlace [] W := fun p hp => ⟨un_none (h p hp).1.1, (h p hp).2⟩
theorem raw_int {f : FuncId} {vs : List V} {us : Array Value} {m : Int} {k : Nat} (h : CallA Tryz.prog f vs [] fun r S' => r = .int .i64 m ∧ S' = []) (W : World) (ht : TabOk noPlace [] W) (hv : VRs noPlace [] W vs us) :
    CallsIn Fence.wide k Tryz.prog f us W fun e W' => e = .returned (.int .i64 m) ∧ W.grownBy W' none := by
  refine callsIn_wide.2 ((h.2 noPlace W us (inv_none ht) hv).mono ?_)
  rintro en w' ⟨ρ', S', r, u, rfl, hr, _, hx, rfl, rfl⟩
  cases hr
  exact ⟨rfl, grown_ext hx⟩
theorem raw_bool {f : FuncId} {vs : List V} {us : Array Value} {m : Bool} {k : Nat} (h : CallA Tryz.prog f vs [] fun r S' => r = .bool m ∧ S' = []) (W : World) (ht : TabOk noPlace [] W) (hv : VRs noPlace [] W vs us) :
    CallsIn Fence.wide k Tryz.prog f us W fun e W' => e = .returned (.bool m) ∧ W.grownBy W' none := by
  refine callsIn_wide.2 ((h.2 noPlace W us (inv_none ht) hv).mono ?_)
  rintro en w' ⟨ρ', S', r, u, rfl, hr, _, hx, rfl, rfl⟩
  cases hr
  exact ⟨rfl, grown_ext hx⟩
def pdU (p : Pd) : Value := .agg #[.int .i64 p.f, .int .i64 p.t, .int .i64 p.d]
theorem pdU_VR (p : Pd) {ρ : AL.Place} {S : Store} {W : World} {b : Bool} : VR ρ S W b (.agg (pdR p)) (pdU p) := by
  refine VR.agg (fun i => match i with | 0 => .int .i64 p.f | 1 => .int .i64 p.t | _ => .int .i64 p.d) rfl (fun i v hv => ?_) (fun i v hv => ?_)
  · match i, hv with
    | 0, hv => rfl
    | 1, hv => rfl
    | 2, hv => rfl
  · match i, hv with
    | 0, hv => cases hv; exact .int
    | 1, hv => cases hv; exact .int
    | 2, hv => cases hv; exact .int
theorem check_in (p : Pd) (k : Nat) (W : World) (ht : TabOk noPlace [] W) : CallsIn Fence.wide k Tryz.prog 95 #[.agg #[.int .i64 p.f, .int .i64 p.t, .int .i64 p.d]] W fun e W' => e = .returned (.int .i64 (pdF p)) ∧ W.grownBy W' none :=
  raw_int (check_A p []) W ht ⟨rfl, fun i v hv => match i, hv with
    | 0, hv => by cases hv; exact ⟨_, rfl, pdU_VR p⟩⟩
theorem on_in (d day : Int) (h0 : 1 ≤ d) (h1 : d ≤ 127) (k : Nat) (W : World) (ht : TabOk noPlace [] W) : CallsIn Fence.wide k Tryz.prog 96 #[.int .i64 d, .int .i64 day] W fun e W' => e = .returned (.bool (onF d day)) ∧ W.grownBy W' none :=
  raw_bool (on_A d h0 h1 day []) W ht ⟨rfl, fun i v hv => match i, hv with
    | 0, hv => by cases hv; exact ⟨_, rfl, .int⟩
    | 1, hv => by cases hv; exact ⟨_, rfl, .int⟩⟩
theorem weekday_in (day : Int) (k : Nat) (W : World) (ht : TabOk noPlace [] W) : CallsIn Fence.wide k Tryz.prog 118 #[.int .i64 day] W fun e W' => e = .returned (.int .i64 (wday day : Nat)) ∧ W.grownBy W' none :=
  raw_int (weekday_A day []) W ht ⟨rfl, fun i v hv => match i, hv with
    | 0, hv => by cases hv; exact ⟨_, rfl, .int⟩⟩
def daysTo (p : Pd) (k : Nat) : List Int := ((List.range k).map fun i => p.f + (i : Nat)).filter (onF p.d)
theorem daysTo_succ (p : Pd) (k : Nat) : daysTo p (k + 1) = if onF p.d (p.f + (k : Nat)) then daysTo p k ++ [p.f + (k : Nat)] else daysTo p k := by
  unfold daysTo
  rw [List.range_succ, List.map_append, List.filter_append]
  by_cases h : onF p.d (p.f + (k : Nat)) = true
  · simp [h]
  · simp [h]
theorem daysF_eq {p : Pd} (h : pdF p = 0) : daysF p = daysTo p (p.t - p.f + 1).toNat := by unfold daysF daysTo; rw [if_pos h]
theorem daysTo_len (p : Pd) (k : Nat) : (daysTo p k).length ≤ k := by
  unfold daysTo
  exact Nat.le_trans (List.length_filter_le _ _) (by simp)
theorem daysTo_mono (p : Pd) {j k : Nat} (h : j ≤ k) : (daysTo p j).length ≤ (daysTo p k).length := by
  induction k with
  | zero => obtain rfl : j = 0 := by omega
            exact Nat.le_refl _
  | succ k ih =>
    by_cases e : j = k + 1
    · rw [e]; exact Nat.le_refl _
    · refine Nat.le_trans (ih (by omega)) ?_
      rw [daysTo_succ]
      split <;> simp
theorem daysTo_lt (p : Pd) {k K : Nat} (h : k < K) (ho : onF p.d (p.f + (k : Nat)) = true) : (daysTo p k).length < (daysTo p K).length := by
  have := daysTo_mono p (j := k + 1) (k := K) h
  rw [daysTo_succ, if_pos ho] at this
  simp at this
  omega
end Pe
end Go.Proofs.YtlnpfnoemhjheaaGreatDoor
