/- Departure: period.each$1 and period.Count, in memory. -/
import Derived.RangeFuncBox
import Derived.RangeFuncNested
import Derived.RangeFuncLeaves
import Derived.Shelf.Abstract
import Derived.WalkKit
import Derived.OwnWalkIn
import Derived.TacticsInMore
import Derived.LoopNIn
import Derived.LoopIn
import Derived.Maps.AppendAt
import Derived.Test.YtlnpfnoemhjheaaGreatDoorMTp3
import Derived.Test.YtlnpfnoemhjheaaGreatDoorMAlM
namespace Go.Proofs.YtlnpfnoemhjheaaGreatDoor
open Go Go.RowKit Go.Shelf
namespace Pe
variable [Go.AL.Mode] [Go.AL.LooseM]
attribute [local go_sem] Oper.semAt_some
set_option linter.unusedVariables false
set_option linter.unusedSectionVars false
structure Leaves (F : Fence) : Prop where
  r : F.round = none
  f1 : F.fn 95
  f2 : F.fn 96
  f3 : F.fn 94
  f4 : F.fn 67
  f5 : F.fn 33
  f7 : F.fn 118
  chk : ∀ (p : Pd) (k : Nat) (W : World), AL.TabOk AL.noPlace [] W → CallsIn F k Tryz.prog 95 #[.agg #[.int .i64 p.f, .int .i64 p.t, .int .i64 p.d]] W fun e W' => e = .returned (.int .i64 (pdF p)) ∧ W.grownBy W' none
  on : ∀ (d day : Int) (h0 : 1 ≤ d) (h1 : d ≤ 127) (k : Nat) (W : World), AL.TabOk AL.noPlace [] W → CallsIn F k Tryz.prog 96 #[.int .i64 d, .int .i64 day] W fun e W' => e = .returned (.bool (onF d day)) ∧ W.grownBy W' none
  wd : ∀ (day : Int) (k : Nat) (W : World), AL.TabOk AL.noPlace [] W → CallsIn F k Tryz.prog 118 #[.int .i64 day] W fun e W' => e = .returned (.int .i64 (wday day : Nat)) ∧ W.grownBy W' none
theorem leaves : Leaves Fence.wide := ⟨rfl, trivial, trivial, trivial, trivial, trivial, trivial, check_in, on_in, weekday_in⟩
theorem grown_below {n₀ : Nat} {W W' : World} (h : W.grownBy W' none) (hn : n₀ ≤ W.heap.size) : Below n₀ W W' := ⟨h.os, h.tape, h.output, h.size, fun k hk => h.block k (by omega) (fun e => by cases e)⟩
def KpD (n₀ Bn : Nat) (A B : World) : Prop := Below n₀ A B ∧ B.heap[Bn]? = A.heap[Bn]?
theorem KpD.trans {n₀ Bn : Nat} {A B C : World} (h : KpD n₀ Bn A B) (k : KpD n₀ Bn B C) : KpD n₀ Bn A C := ⟨h.1.trans k.1, k.2.trans h.2⟩
theorem KpD.refl {n₀ Bn : Nat} {A : World} : KpD n₀ Bn A A := ⟨Below.refl _ _, rfl⟩
theorem grown_kp {n₀ Bn : Nat} {W W' : World} (h : W.grownBy W' none) (hn : n₀ ≤ W.heap.size) (hb : Bn < W.heap.size) : KpD n₀ Bn W W' := ⟨grown_below h hn, h.block Bn hb (fun e => by cases e)⟩
def leftD (p : Pd) : Value → Nat
  | .int _ d => (p.t + 1 - d).toNat
  | _ => 0
set_option maxRecDepth 100000 in
set_option maxHeartbeats 1000000 in
theorem each1_in (F : Fence) (L : Leaves F) (n : Nat) (hn : 1 ≤ n) (l Bn n₀ : Nat) (p : Pd) (J Jx : List Int → World → Prop)
    (hY : ∀ pre x W, J pre W → pre.length < (daysF p).length → YieldAt F (n - 1) Tryz.prog l #[.int .i64 x] W fun e W' =>
      (e = .returned (.bool true) ∧ J (pre ++ [x]) W' ∧ KpD n₀ Bn W W') ∨ (e = .returned (.bool false) ∧ Jx (pre ++ [x]) W'))
    (W : World) (hJ : AbidesFrom W.heap.size J) (hn0 : n₀ ≤ W.heap.size) (ht : AL.TabOk AL.noPlace [] W) (htn : ∀ q ∈ AL.tabs, q.1 < n₀)
    (hb : W.heap[Bn]? = some (.cells #[.int .i64 p.f, .int .i64 p.t, .int .i64 p.d] 73 (0, 0))) (h0 : J [] W) :
    CallsIn F n Tryz.prog 94 #[.func (.yield l) #[] #[], .pointer (some ⟨Bn, 0, none⟩)] W fun e W' => (∃ v, e = .returned v) ∧
      ((∃ ys, ys = daysF p ∧ J ys W') ∨ (∃ pre, Jx pre W')) := by
  have hro := L.r
  have h76 := L.f1
  have h107 := L.f2
  refine callsIn_of_wp Tryz.func94 rfl L.f3 ?_ hro
  simp only [Tryz.ntmps94, List.size_toArray, List.length_cons, List.length_nil, Nat.reduceAdd, Nat.reduceSub, Array.replicate_succ, Array.replicate_zero, List.push_toArray, List.append_toArray, List.nil_append, List.cons_append]
  have hBlt : Bn < W.heap.size := (Array.getElem?_eq_some_iff.1 hb).1
  have cell : ∀ {W' : World}, KpD n₀ Bn W W' → W'.cell? ⟨Bn, 0, none⟩ = some (.int .i64 p.f) ∧ W'.cell? ⟨Bn, 1, none⟩ = some (.int .i64 p.t) ∧ W'.cell? ⟨Bn, 2, none⟩ = some (.int .i64 p.d) := fun hB => by
    unfold World.cell?
    simp only [hB.2, hb]
    exact ⟨rfl, rfl, rfl⟩
  obtain ⟨d0, d1, d2⟩ := cell KpD.refl
  gi_wp2_with (gi_at_call 95; refine (L.chk p (n - 1) _ ht).mono ?_; rintro e w1 ⟨rfl, hg1⟩; have hB1 := grown_kp (Bn := Bn) hg1 hn0 hBlt; obtain ⟨e0, e1, e2⟩ := cell hB1; have hJ1 : J [] w1 := hJ [] W w1 none h0 hg1 (fun r e => by cases e))
  · have hne : pdF p ≠ 0 := by simpa using ‹(pdF p != 0) = true›
    refine bodyPost_ret (results_none rfl _ _ _) rfl ?_
    exact ⟨⟨_, rfl⟩, .inl ⟨[], by unfold daysF; rw [if_neg hne], hJ1⟩⟩
  · have hok : pdF p = 0 := by simpa using ‹(pdF p != 0) = false›
    obtain ⟨q1, q2, q3, q4, q5, q6⟩ := pd_ok hok
    simp only [hok, bne_self_eq_false]
    gi_loopw [3] (fun v wr => ∃ k : Nat, v = .int .i64 (p.f + (k : Nat)) ∧ k ≤ (p.t - p.f + 1).toNat ∧ J (daysTo p k) wr ∧ KpD n₀ Bn W wr)
      (fun v wr => leftD p v)
    case atStart => exact ⟨0, by simp, Nat.zero_le _, by simpa [daysTo] using hJ1, hB1⟩
    case round =>
      obtain ⟨k, rfl, hk, hJk, hBk⟩ := hrel
      obtain ⟨c0, c1, c2⟩ := cell hBk
      have htk : AL.TabOk AL.noPlace [] wr := tab_keep ht htn hBk.1
      have hsz : W.heap.size ≤ wr.heap.size := hBk.1.size
      gi_wp2_with (gi_at_call 96; refine (L.on p.d (p.f + (k : Nat)) q5 q6 (n - 1) _ htk).mono ?_; rintro e w2 ⟨rfl, hg2⟩; have hB2 : KpD n₀ Bn wr w2 := grown_kp hg2 (by omega) (by omega); have hJ2 : J (daysTo p k) w2 := hJ _ wr w2 none hJk hg2 (fun r e => by cases e))
      · have hon : onF p.d (p.f + (k : Nat)) = true := by assumption
        obtain ⟨fn, tmps, assign, body, hy, hR⟩ := hY (daysTo p k) (p.f + (k : Nat)) w2 hJ2 (by rw [daysF_eq hok]; exact daysTo_lt p (by omega) hon)
        rw [hy]
        gi_wp2
        refine hR.mono ?_
        rintro e W3 (⟨rfl, hJ3, hk3⟩ | ⟨rfl, hJx3⟩)
        · gi_wp2
          go_roundw
          case rel => exact ⟨k + 1, by simp [Int.add_assoc], by omega, by rw [daysTo_succ, if_pos hon]; exact hJ3, (hBk.trans hB2).trans hk3⟩
          case measure => simp only [leftD]; omega
        · gi_wp2
          refine bodyPost_ret (results_none rfl _ _ _) rfl ?_
          exact ⟨⟨_, rfl⟩, .inr ⟨_, hJx3⟩⟩
      · refine ⟨fun f hf => (by cases hf), ?_⟩
        have hof : ¬ onF p.d (p.f + (k : Nat)) = true := by
          assumption
        gi_wp2
        go_roundw
        case rel => exact ⟨k + 1, by simp [Int.add_assoc], by omega, by rw [daysTo_succ, if_neg hof]; exact hJ2, hBk.trans hB2⟩
        case measure => simp only [leftD]; omega
      · go_end0
        refine ⟨⟨_, rfl⟩, .inl ⟨_, ?_, hJk⟩⟩
        rw [daysF_eq hok]
        congr 1
        omega
theorem each_stops (F : Fence) (L : Leaves F) (n : Nat) (hn : 1 ≤ n) (Bn n₀ : Nat) (p : Pd) (w : World) (hn0 : n₀ ≤ w.heap.size) (ht : AL.TabOk AL.noPlace [] w) (htn : ∀ q ∈ AL.tabs, q.1 < n₀)
    (hb : w.heap[Bn]? = some (.cells #[.int .i64 p.f, .int .i64 p.t, .int .i64 p.d] 73 (0, 0))) :
    SeqStopsK F n Tryz.prog 94 #[.pointer (some ⟨Bn, 0, none⟩)] (fun x : Int => #[Value.int .i64 x]) (KpD n₀ Bn) (fun ys => ys = daysF p) (fun _ => True) (daysF p).length w := fun l J Jx W hW hJ _ hY h0 =>
  (each1_in F L n hn l Bn n₀ p J Jx hY W hJ (Nat.le_trans hn0 hW.size) (tab_keep ht htn (hW.mono hn0)) htn ((hW.block Bn (Array.getElem?_eq_some_iff.1 hb).1).trans hb) h0).mono
    fun e W' h => ⟨h.1, h.2.elim .inl fun ⟨pre, hp⟩ => .inr ⟨pre, trivial, hp⟩⟩
set_option maxHeartbeats 1000000 in
theorem each_in (F : Fence) (L : Leaves F) (n : Nat) (p : Pd) (w : World) :
    CallsIn F n Tryz.prog 67 #[.agg #[.int .i64 p.f, .int .i64 p.t, .int .i64 p.d]] w fun e w' => e = .returned (.func (.func 94) #[] #[.pointer (some ⟨w.heap.size, 0, none⟩)]) ∧ w' = w.alloc (.cells #[.int .i64 p.f, .int .i64 p.t, .int .i64 p.d] 73) := by
  have hro := L.r
  refine callsIn_of_wp Tryz.func67 rfl L.f4 ?_ hro
  simp only [Tryz.ntmps67, List.size_toArray, List.length_cons, List.length_nil, Nat.reduceAdd, Nat.reduceSub, Array.replicate_succ, Array.replicate_zero, List.push_toArray, List.append_toArray, List.nil_append, List.cons_append]
  gi_wp2
  go_ret
  exact ⟨rfl, rfl⟩
theorem any_own (Bn k : Nat) (ty : TypeId) (ok : List Int → Array Value → Prop) : OwnFrom k (fun (pre : List Int) W => ∃ cs, ok pre cs ∧ W.heap[Bn]? = some (.cells cs ty (0, 0))) := by
  rintro s A B row ⟨cs, hok, h⟩ hg hr
  refine ⟨cs, hok, (hg.block Bn (Array.getElem?_eq_some_iff.1 h).1 fun e => ?_).trans h⟩
  obtain ⟨_, o, ho, hc⟩ := hr Bn e.symm
  rw [h] at ho
  cases ho
  cases hc
theorem set_cells {W : World} {k : Nat} {cs : Array Value} {ty : TypeId} {fr : Nat × Nat} (h : W.heap[k]? = some (.cells cs ty fr)) (o : Nat) (v : Value) : (W.setCell ⟨k, o, none⟩ v).heap[k]? = some (.cells (cs.setIfInBounds o v) ty fr) := by
  show (W.heap.modify k _)[k]? = _
  rw [Array.getElem?_modify, if_pos rfl, h]
  rfl
def CntJ (n : Nat) (p : Pd) (pre : List Int) (W : World) : Prop :=
  (∃ cs : Array Value, cs = #[.int .i64 (pre.length : Nat)] ∧ W.heap[n + 1]? = some (.cells cs 3 (0, 0))) ∧
   (∃ cs : Array Value, cs = #[.int .i64 p.f, .int .i64 p.t, .int .i64 p.d] ∧ W.heap[n + 2]? = some (.cells cs 73 (0, 0)))
set_option maxRecDepth 100000 in
set_option maxHeartbeats 2000000 in
theorem count_in (F : Fence) (L : Leaves F) (n : Nat) (hn : 3 ≤ n) (p : Pd) (w : World) (ht : AL.TabOk AL.noPlace [] w) :
    CallsIn F n Tryz.prog 33 #[.agg #[.int .i64 p.f, .int .i64 p.t, .int .i64 p.d]] w fun e W' => e = .returned (.int .i64 ((daysF p).length : Nat)) ∧ Below w.heap.size w W' := by
  have hro := L.r
  have h137 := L.f4
  have h1 : 1 ≤ n := by omega
  have hlen : (daysF p).length ≤ 800 := by
    by_cases hok : pdF p = 0
    · rw [daysF_eq hok]
      have := daysTo_len p (p.t - p.f + 1).toNat
      have := pd_ok hok
      omega
    · unfold daysF; rw [if_neg hok]; simp
  refine callsIn_of_wp_marks Tryz.func33 rfl L.f5 ?_ hro
  simp only [Tryz.ntmps33, List.size_toArray, List.length_cons, List.length_nil, Nat.reduceAdd, Nat.reduceSub, Array.replicate_succ, Array.replicate_zero, List.push_toArray, List.append_toArray, List.nil_append, List.cons_append]
  gi_wp2_with (gi_at_call 67; refine (each_in F L (n - 1) p _).mono ?_; rintro e w' ⟨rfl, rfl⟩)
  obtain ⟨W4, hW4⟩ : ∃ W4 : World, W4 = ((w.alloc (.cells #[.int .i64 p.f, .int .i64 p.t, .int .i64 p.d] 73)).alloc (.cells #[.int .i64 0] 3)).alloc (.cells #[.int .i64 p.f, .int .i64 p.t, .int .i64 p.d] 73) := ⟨_, rfl⟩
  rw [← hW4]
  have hsz : W4.heap.size = w.heap.size + 3 := by rw [hW4]; simp
  have hB0 : Below w.heap.size w W4 := by
    rw [hW4]
    exact (((Below.refl _ w).alloc (Nat.le_refl _) _).alloc (by simp) _).alloc (by simp; omega) _
  have hJ0 : CntJ w.heap.size p [] W4 := by
    have g2 := World.alloc_heap_new ((w.alloc (.cells #[.int .i64 p.f, .int .i64 p.t, .int .i64 p.d] 73)).alloc (.cells #[.int .i64 0] 3)) (.cells #[.int .i64 p.f, .int .i64 p.t, .int .i64 p.d] 73)
    have g1 := World.alloc_heap_new (w.alloc (.cells #[.int .i64 p.f, .int .i64 p.t, .int .i64 p.d] 73)) (.cells #[.int .i64 0] 3)
    simp only [World.size_alloc] at g1 g2
    refine ⟨⟨_, rfl, ?_⟩, ⟨_, rfl, ?_⟩⟩
    · rw [hW4, Below.heap_alloc _ _ _ (by simp)]
      exact g1
    · rw [hW4]
      exact g2
  obtain ⟨c4, hc4, bN⟩ := hJ0.2
  subst hc4
  refine wpIn_rangeFunc_ownG hro h1 (gf := 94) (lb := #[.pointer (some ⟨w.heap.size + 1 + 1, 0, none⟩)]) (by simp [Act.eval]) L.f3 (enters_of Tryz.func94 (by kernel_rfl) rfl)
    (each_stops F L (n - 1) (by omega) (w.heap.size + 2) w.heap.size p _ (by omega) (tab_keep ht (tab_lt ht) hB0) (tab_lt ht) bN) KpD.trans (fun W l o o' hl hb k1 k2 => ⟨belowK_b (w := w) (Nat.le_refl _) W l o o' (by omega) hb k1 k2, World.putObj_heap_other (by omega)⟩) (Below.refl _ _) (fun _ => rfl)
    (fun pre W => CntJ w.heap.size p pre W ∧ Below w.heap.size w W)
    (fun _ _ _ => False)
    (OwnFrom.and (OwnFrom.and (any_own _ _ _ fun pre cs => cs = #[.int .i64 (pre.length : Nat)]) (any_own _ _ _ fun _ cs => cs = #[.int .i64 p.f, .int .i64 p.t, .int .i64 p.d])) (ownFrom_below (Nat.le_refl _) (by omega)))
    (fun _ _ _ _ _ hs _ _ => hs)
    ⟨hJ0, hB0⟩
    (fun x => { tmps := #[.agg #[.int .i64 p.f, .int .i64 p.t, .int .i64 p.d], .pointer (some ⟨w.heap.size, 0, none⟩), .int .i64 0, .pointer (some ⟨w.heap.size + 1, 0, none⟩), .agg #[.int .i64 p.f, .int .i64 p.t, .int .i64 p.d], .func (.func 94) #[] #[.pointer (some ⟨w.heap.size + 1 + 1, 0, none⟩)], .int .i64 x, undef, undef, undef], defers := [] }) ?assign ?body ?done ?stop
  case assign =>
    intro l x W K hK
    gi_wp2
    simpa using hK
  case body =>
    rintro l pre x W ⟨⟨⟨c1, rfl, e1⟩, ⟨c4, rfl, e4⟩⟩, hB⟩ hlt
    have ce1 : W.cell? ⟨w.heap.size + 1, 0, none⟩ = some (.int .i64 (pre.length : Nat)) := by unfold World.cell?; simp [e1]
    have fz1 : W.frozen? ⟨w.heap.size + 1, 0, none⟩ = false := by unfold World.frozen?; simp [e1]
    gi_wp2
    have e : ((pre.length : Nat) : Int) + 1 = ((pre ++ [x]).length : Nat) := by simp
    refine ⟨(KeepsOthers.setCell _ _ _).from _, ⟨(Below.refl _ W).setCell (by simp only; omega) _, Below.heap_setCell _ _ _ _ (by simp)⟩, ⟨⟨_, rfl, ?_⟩, ⟨_, rfl, ?_⟩⟩, hB.setCell (by simp only; omega) _⟩
    · rw [← e]
      exact set_cells e1 0 _
    · rw [Below.heap_setCell _ _ _ _ (by simp)]
      exact e4
  case done =>
    rintro D ys W hD rfl ⟨⟨⟨c1, rfl, e1⟩, ⟨c4, rfl, e4⟩⟩, hB⟩ hK
    have ce1 : W.cell? ⟨w.heap.size + 1, 0, none⟩ = some (.int .i64 ((daysF p).length : Nat)) := by unfold World.cell?; simp [e1]
    gi_wp2
    refine ⟨by simp, .inl ⟨_, _, rfl, run_takeDeferred hK, ?_⟩⟩
    exact ⟨_, results_tmp rfl _ _ _, rfl, hB.trans (belowK_b (w := w) (Nat.le_refl _) W D _ _ (by omega) hK rfl rfl)⟩
  case stop =>
    rintro D c pre W _ _ h _
    exact h.elim
end Pe
end Go.Proofs.YtlnpfnoemhjheaaGreatDoor
/- Departure: what keeps the statement awake. -/
namespace Go.Proofs.YtlnpfnoemhjheaaGreatDoor
open Go Go.AL
set_option linter.unusedSectionVars false
variable [Go.AL.Mode] [Go.AL.LooseM]
set_option linter.unusedSimpArgs false
set_option linter.unusedVariables false
namespace Pe
theorem agg3_inv {ρ : AL.Place} {S : Store} {w : World} {b : Bool} {p : Pd} {u : Value} (h : VR ρ S w b (.agg (pdR p)) u) : u = .agg #[.int .i64 p.f, .int .i64 p.t, .int .i64 p.d] := by
  cases h with
  | agg c hl hc hv =>
    rename_i us
    congr 1
    apply Array.ext_getElem?
    intro i
    match i with
    | 0 =>
      have h0 := hv 0 (.int .i64 p.f) rfl
      rw [hc 0 _ rfl]
      generalize c 0 = x at h0
      cases h0; rfl
    | 1 =>
      have h0 := hv 1 (.int .i64 p.t) rfl
      rw [hc 1 _ rfl]
      generalize c 1 = x at h0
      cases h0; rfl
    | 2 =>
      have h0 := hv 2 (.int .i64 p.d) rfl
      rw [hc 2 _ rfl]
      generalize c 2 = x at h0
      cases h0; rfl
    | i + 3 => rw [Array.getElem?_eq_none_iff.2 (by rw [hl]; simp [pdR]), Array.getElem?_eq_none_iff.2 (by simp)]
theorem one_inv {ρ : AL.Place} {S : Store} {w : World} {p : Pd} {us : Array Value} (h : VRs ρ S w [.agg (pdR p)] us) : us = #[.agg #[.int .i64 p.f, .int .i64 p.t, .int .i64 p.d]] := by
  obtain ⟨h2, hvs⟩ := h
  obtain ⟨u0, e0, r0⟩ := hvs 0 _ rfl
  rw [agg3_inv r0] at e0
  apply Array.ext_getElem?
  intro i
  match i with
  | 0 => rw [e0]; rfl
  | i + 1 => rw [Array.getElem?_eq_none_iff.2 (by simp at h2; omega), Array.getElem?_eq_none_iff.2 (by simp)]
theorem count_A (S : Store) : CallA Tryz.prog 33 [.agg [.int .i64 9497, .int .i64 9503, .int .i64 96]] S fun r S' => r = .int .i64 2 ∧ S' = S := by
  have hd : (daysF ⟨9497, 9503, 96⟩).length = 2 := by decide
  refine ⟨⟨Tryz.f33, Tryz.func33, by kernel_rfl, by kernel_rfl⟩, fun ρ w us hi hvs => ?_⟩
  rw [one_inv (p := ⟨9497, 9503, 96⟩) hvs]
  refine (callsIn_wide.1 (count_in Fence.wide leaves 3 (Nat.le_refl _) ⟨9497, 9503, 96⟩ w (tab_none hi.tab))).mono ?_
  rintro en w' ⟨rfl, hB⟩
  rw [hd]
  exact ⟨ρ, S, _, _, rfl, .int, inv_below hi hB, ext_below hB, rfl, rfl⟩
end Pe
theorem awake_A (S : Store) : CallA Tryz.prog 11 [] S fun r S' => r = .bool true ∧ S' = S := by
  refine CallA.keep Tryz.func11 c7005 (Nat.le_of_ble_eq_true rfl) fun σ hσ => ?_
  simp (disch := first | omega | (simp only [lenT]; omega)) only [a7005, evSt, ↓evPre, ↓evPreW, evPost, evPostW, evR, evU, seval]
  refine (print_A S).then ?_
  simp (disch := first | omega | (simp only [lenT]; omega)) only [evSt, ↓evPre, ↓evPreW, evPost, evPostW, evR, evU, seval]
  refine (Pe.count_A S).then ?_
  simp (disch := first | omega | (simp only [lenT]; omega)) only [evSt, ↓evPre, ↓evPreW, evPost, evPostW, evR, evU, seval]
  refine (zlocal_A S).then ?_
  simp (disch := first | omega | (simp only [lenT]; omega)) only [evSt, ↓evPre, ↓evPreW, evPost, evPostW, evR, evU, seval]
end Go.Proofs.YtlnpfnoemhjheaaGreatDoor
