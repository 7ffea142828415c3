/- slices.AppendSeq over maps.Values: the walk of the two, in memory: the map's values come, each once, in some order. -/
import Derived.RangeFuncNested
import Derived.RangeFuncBound
import Derived.RangeFuncCalls
import Derived.RangeFuncLeaves
import Derived.Shelf.Abstract
import Derived.Shelf.RegionOpen
import Derived.WalkKit
import Derived.OwnWalkIn
import Derived.TacticsInMore
import Derived.LoopNIn
import Derived.LoopIn
import Derived.Maps.AppendAt
import Derived.Maps.RangeRun
import Derived.Sort.MapsRangeIn
import Derived.Test.YthdcajfjglgiiaaProg
namespace Go.Proofs.Ythdcajfjglgiiaa
open Go Go.RowKit Go.Shelf
attribute [local go_sem] Oper.semAt_some
set_option linter.unusedVariables false

section
variable {F : Fence} {n : Nat} {P : Program} {ops : Array Oper} {rest : List Oper} {o : Oper} {a : Act} {Q : Exit → Act → World → Prop}
theorem range_es (w : World) (hg : o.guard = none) (m : Operand) (t : TypeId) (hop : o.op = Op.range t m) (k e : TypeId) (ht : P.underlying t = some (.map k e)) (b : Nat) (es : Array MapEntry) (ck : Nat)
    (hm : a.eval m = .map (some b)) (hb : w.heap[b]? = some (.map es ck))
    (hK : wpListIn F n P ops Q rest (a.put o.dst (.pointer (some ⟨w.heap.size, 0, none⟩))) (w.alloc (.mapIter (some b) ck #[] ck))) : wpListIn F n P ops Q (o :: rest) a w := by
  refine wpListIn_plain hg fun K' hK' => ?_
  have hrun := run_range_map (P := P) w t k e b es ck ht hb
  unfold Oper.wpIn
  refine ⟨?_, ?_⟩
  · simp [Oper.about, hop]
  · rw [Oper.semAt_plain F _ _ (by rw [hop]; intro c hc'; cases hc')]
    simp [execOp, hop, hm, hrun, Result.andThen]
    exact hK' _ _ hK

theorem setBlock_iter {w : World} {r : Nat} {o o' : Obj} (hr : w.heap[r]? = some o) : (ChangeMaps.setBlock w r o').heap[r]? = some o' ∧ w.grownBy (ChangeMaps.setBlock w r o') (some r) ∧ (ChangeMaps.setBlock w r o').heap.size = w.heap.size := by
  have hlt := (Array.getElem?_eq_some_iff.1 hr).1
  refine ⟨by simp [ChangeMaps.setBlock, hlt], ⟨rfl, rfl, rfl, by simp [ChangeMaps.setBlock], fun k hk hne => ?_⟩, by simp [ChangeMaps.setBlock]⟩
  have hn : r ≠ k := fun e => hne (by rw [e])
  simp [ChangeMaps.setBlock, Array.getElem?_setIfInBounds, hn]

theorem next_es (w : World) (hg : o.guard = none) (it : Operand) (hop : o.op = Op.next it false) (b r : Nat) (es : Array MapEntry) (ck : Nat) (seen : Array Nat)
    (hit : a.eval it = .pointer (some ⟨r, 0, none⟩)) (hr : w.heap[r]? = some (.mapIter (some b) ck seen ck)) (hb : w.heap[b]? = some (.map es ck)) (hbr : b ≠ r) (hs : ∀ x ∈ es.toList, x.born < ck) (hnd : (es.toList.map (·.born)).Nodup)
    (hDone : (leftOf es seen).size = 0 → wpListIn F n P ops Q rest (a.put o.dst (.tuple #[.bool false])) w)
    (hMore : ∀ (e : MapEntry) (w' : World), e ∈ (leftOf es seen).toList → w'.heap[r]? = some (.mapIter (some b) ck (seen.push e.born) ck) → w'.heap[b]? = some (.map es ck) → w.grownBy w' (some r) → w'.heap.size = w.heap.size →
      (Instr.entry (.pointer (some ⟨r, 0, none⟩))).run P w' = .ok (.tuple #[e.key, e.val]) w' → wpListIn F n P ops Q rest (a.put o.dst (.tuple #[.bool true, e.key, e.val])) w') :
    wpListIn F n P ops Q (o :: rest) a w := by
  refine wpListIn_plain hg fun K' hK' => ?_
  unfold Oper.wpIn
  refine ⟨by simp [Oper.about, hop], ?_⟩
  rw [Oper.semAt_plain F _ _ (by rw [hop]; intro c hc'; cases hc')]
  rcases run_next_at (P := P) w o.type r b ck ck seen es ck hr hb hs (Nat.le_refl _) with ⟨h0, hrun⟩ | ⟨e, he, w1, hal, hrun⟩
  · simp [execOp, hop, hit, hrun, Result.andThen]
    exact hK' _ _ (hDone h0)
  · simp [execOp, hop, hit, hrun, Result.andThen]
    refine hK' _ _ ?_
    have hr1 : w1.heap[r]? = some (.mapIter (some b) ck seen ck) := by rcases hal with rfl | rfl <;> exact hr
    have hb1 : w1.heap[b]? = some (.map es ck) := by rcases hal with rfl | rfl <;> exact hb
    have hs1 : w1.heap.size = w.heap.size := by rcases hal with rfl | rfl <;> rfl
    have hg1 : w.grownBy w1 none := by rcases hal with rfl | rfl <;> exact ⟨rfl, rfl, rfl, Nat.le_refl _, fun _ _ _ => rfl⟩
    obtain ⟨p1, p2, p3⟩ := setBlock_iter (o' := .mapIter (some b) ck (seen.push e.born) ck) hr1
    have hb2 : (ChangeMaps.setBlock w1 r (.mapIter (some b) ck (seen.push e.born) ck)).heap[b]? = some (.map es ck) := (p2.block b (Array.getElem?_eq_some_iff.1 hb1).1 (fun e => hbr (by simpa using e))).trans hb1
    have hem : e ∈ es.toList := by
      have : e ∈ leftOf es seen := by simpa using he
      unfold leftOf at this
      have := (Array.mem_filter.1 this).1
      simpa using this
    refine hMore e _ he p1 hb2 ⟨p2.os.trans hg1.os, p2.tape.trans hg1.tape, p2.output.trans hg1.output, by omega, fun k hk hne => (p2.block k (by omega) hne).trans (hg1.block k hk (by simp))⟩ (by omega) ?_
    exact run_entry_at _ r b ck seen es ck e p1 hb2 hem hnd
end

/-- What is still to come, one entry having come. -/
theorem left_perm {es : Array MapEntry} {seen : Array Nat} {e : MapEntry} (hnd : (es.toList.map (·.born)).Nodup) (he : e ∈ (leftOf es seen).toList) : (leftOf es seen).toList.Perm (e :: (leftOf es (seen.push e.born)).toList) := by
  have h1 : (leftOf es (seen.push e.born)).toList = (leftOf es seen).toList.filter fun x => !(x.born == e.born) := by
    unfold leftOf
    simp only [Array.toList_filter, List.filter_filter]
    congr 1
    funext x
    simp only [Array.contains_push, Bool.not_or]
    rw [Bool.and_comm]
  rw [h1]
  have hsub : ((leftOf es seen).toList.map (·.born)).Nodup := by
    unfold leftOf
    simp only [Array.toList_filter]
    exact List.Sublist.nodup (List.Sublist.map _ List.filter_sublist) hnd
  generalize (leftOf es seen).toList = l at he hsub
  induction l with
  | nil => cases he
  | cons x l ih =>
    simp only [List.map_cons, List.nodup_cons] at hsub
    rcases List.mem_cons.1 he with rfl | he
    · have : l.filter (fun x => !(x.born == e.born)) = l := List.filter_eq_self.2 fun y hy => by
        have : y.born ≠ e.born := fun hh => hsub.1 (List.mem_map.2 ⟨y, hy, hh⟩)
        simp [this]
      simp [this]
    · have hne : x.born ≠ e.born := fun hh => hsub.1 (hh ▸ List.mem_map.2 ⟨e, he, rfl⟩)
      have : (x :: l).filter (fun x => !(x.born == e.born)) = x :: l.filter (fun x => !(x.born == e.born)) := by simp [hne]
      rw [this]
      exact ((ih he hsub.2).cons x).trans (List.Perm.swap _ _ _)

/-- A hold, in memory: five cells. -/
def IsHd (v : Value) : Prop := ∃ c0 c1 c2 c3 c4 : Value, v = .agg #[c0, c1, c2, c3, c4] ∧ c0.oneCell' = true ∧ c1.oneCell' = true ∧ c2.oneCell' = true ∧ c3.oneCell' = true ∧ c4.oneCell' = true
abbrev Hv := { v : Value // IsHd v }


theorem alloc_setCell (w : World) (cur : Array Value) (t : TypeId) (i : Nat) (v : Value) : (w.alloc (.cells cur t)).setCell ⟨w.heap.size, i, none⟩ v = w.alloc (.cells (cur.setIfInBounds i v) t) := by
  unfold World.alloc World.setCell
  congr 1
  apply Array.ext_getElem?
  intro k
  simp only [Array.getElem?_modify, Array.getElem?_push]
  by_cases hk : k = w.heap.size
  · subst hk; simp
  · rw [if_neg (fun e => hk e.symm), if_neg hk, if_neg hk]

theorem run_store_new {P : Program} (w : World) (cur : Array Value) (t : TypeId) (i : Nat) {v : Value} (hi : i < cur.size) (h1 : v.oneCell' = true) :
    (store ⟨w.heap.size, i, none⟩ v).run P (w.alloc (.cells cur t)) = .ok () (w.alloc (.cells (cur.setIfInBounds i v) t)) := by
  have hh : (w.alloc (.cells cur t)).heap[w.heap.size]? = some (.cells cur t (0, 0)) := World.alloc_heap_new _ _
  rw [run_store P _ _ _ _ h1]
  have hc : (w.alloc (.cells cur t)).cell? ⟨w.heap.size, i, none⟩ = some cur[i] := by unfold World.cell?; rw [hh]; simp [hi]
  have hf : (w.alloc (.cells cur t)).frozen? ⟨w.heap.size, i, none⟩ = false := by unfold World.frozen?; rw [hh]; simp
  simp only [hc, hf, alloc_setCell, Bool.false_eq_true, if_false]

theorem stores5 {P : Program} (w : World) (t : TypeId) (z0 z1 z2 z3 z4 : Value) {c0 c1 c2 c3 c4 : Value} (o0 : c0.oneCell' = true) (o1 : c1.oneCell' = true) (o2 : c2.oneCell' = true) (o3 : c3.oneCell' = true) (o4 : c4.oneCell' = true) :
    ((Sem.run P (store ⟨w.heap.size, 0, none⟩ c0) (w.alloc (.cells #[z0, z1, z2, z3, z4] t))).andThen fun _ w' => (Sem.run P (store ⟨w.heap.size, 1, none⟩ c1) w').andThen fun _ w' => (Sem.run P (store ⟨w.heap.size, 2, none⟩ c2) w').andThen fun _ w' =>
      (Sem.run P (store ⟨w.heap.size, 3, none⟩ c3) w').andThen fun _ w' => Sem.run P (store ⟨w.heap.size, 4, none⟩ c4) w') = .ok () (w.alloc (.cells #[c0, c1, c2, c3, c4] t)) := by
  rw [run_store_new w _ t 0 (by simp) o0]; simp only [Result.andThen_ok]
  rw [run_store_new w _ t 1 (by simp) o1]; simp only [Result.andThen_ok]
  rw [run_store_new w _ t 2 (by simp) o2]; simp only [Result.andThen_ok]
  rw [run_store_new w _ t 3 (by simp) o3]; simp only [Result.andThen_ok]
  rw [run_store_new w _ t 4 (by simp) o4]
  simp

theorem left_nil (es : Array MapEntry) : leftOf es #[] = es := by simp [leftOf]

set_option maxRecDepth 100000 in
set_option maxHeartbeats 1000000 in
/-- maps.Values's iterator. -/
theorem values1_in (F : Fence) (n : Nat) (h41 : F.fn 41) (hro : F.round = none) (hn : 1 ≤ n) (l Bm b : Nat) (es : Array MapEntry) (ck : Nat) (hs : ∀ x ∈ es.toList, x.born < ck) (hnd : (es.toList.map (·.born)).Nodup) (hE : ∀ x ∈ es.toList, IsHd x.val) (J Jx : List Hv → World → Prop)
    (hY : ∀ pre x W, J pre W → pre.length < es.size → YieldAt F (n - 1) Try.prog l #[x.1] W fun e W' => (e = .returned (.bool true) ∧ J (pre ++ [x]) W' ∧ KeepsWalks W W') ∨ (e = .returned (.bool false) ∧ Jx (pre ++ [x]) W'))
    (W : World) (hJ : AbidesFrom W.heap.size J) (hBm : W.cell? ⟨Bm, 0, none⟩ = some (.map (some b))) (hb : W.heap[b]? = some (.map es ck)) (h0 : J [] W) :
    CallsIn F n Try.prog 41 #[.func (.yield l) #[] #[], .pointer (some ⟨Bm, 0, none⟩)] W fun e W' => (∃ v, e = .returned v) ∧
      ((∃ ys : List Hv, (ys.map (·.1)).Perm (es.toList.map (·.val)) ∧ J ys W') ∨ (∃ pre : List Hv, Jx pre W')) := by
  refine callsIn_of_wp Try.func41 rfl h41 ?_ hro
  simp only [Try.ntmps41, List.size_toArray, List.length_cons, List.length_nil, Nat.reduceAdd, Nat.reduceSub, Array.replicate_succ, Array.replicate_zero, List.push_toArray, List.append_toArray, List.nil_append, List.cons_append]
  have hblt : b < W.heap.size := (Array.getElem?_eq_some_iff.1 hb).1
  gi_wp2_with (first
    | (gi_at_range; refine range_es _ rfl _ _ rfl _ _ Try.underlying38 b es ck rfl hb ?_)
    | gi_in)
  go_frame
  obtain ⟨wi, hwi⟩ : ∃ wi, W.alloc (.mapIter (some b) ck #[] ck) = wi := ⟨_, rfl⟩
  have hwir : wi.heap[W.heap.size]? = some (.mapIter (some b) ck #[] ck) := by rw [← hwi]; exact World.alloc_heap_new _ _
  have hwib : wi.heap[b]? = some (.map es ck) := by rw [← hwi]; exact (Below.heap_alloc _ _ b hblt).trans hb
  have hwiJ : J [] wi := by rw [← hwi]; exact hJ [] W _ none h0 (World.grownBy_alloc W _ none) (fun r e => by cases e)
  rw [hwi]
  gi_loopw [4] (fun _ wr => ∃ (seen : Array Nat) (pre : List MapEntry) (ys : List Hv), wr.heap[W.heap.size]? = some (.mapIter (some b) ck seen ck) ∧ wr.heap[b]? = some (.map es ck) ∧ (pre ++ (leftOf es seen).toList).Perm es.toList ∧ ys.map (·.1) = pre.map (·.val) ∧ J ys wr)
    (fun _ wr => wr.rangeLeft b W.heap.size)
  case atStart =>
    exact ⟨#[], [], [], hwir, hwib, by rw [left_nil]; simp, rfl, hwiJ⟩
  case round =>
    obtain ⟨seen, pre, ys, hr, hb2, hp, hy, hJs⟩ := hrel
    gi_wp2_with (first
      | (gi_at_next; refine next_es _ rfl _ rfl b W.heap.size es ck seen rfl hr hb2 (by omega) hs hnd ?_ ?_)
      | gi_in)
    · intro hz
      gi_wp2
      go_end0
      refine ⟨⟨_, rfl⟩, .inl ⟨ys, ?_, hJs⟩⟩
      have : (leftOf es seen).toList = [] := by simpa using hz
      rw [this, List.append_nil] at hp
      rw [hy]
      exact hp.map _
    · intro e w2 he hr2 hb3 hg2 hs2 hen
      have hem : e ∈ es.toList := by
        have : e ∈ leftOf es seen := by simpa using he
        unfold leftOf at this
        simpa using (Array.mem_filter.1 this).1
      obtain ⟨c0, c1, c2, c3, c4, hev, o0, o1, o2, o3, o4⟩ := hE e hem
      obtain ⟨ek, ev, eb⟩ := e
      simp only at hev
      subst hev
      simp only at hen hr2
      have hJ2 : J ys w2 := hJ ys wr w2 (some W.heap.size) hJs hg2 (fun r e => by cases e; exact ⟨Nat.le_refl _, _, hr, rfl⟩)
      clear hs2
      gi_wp2
      rw [stores5 w2 31 _ _ _ _ _ o0 o1 o2 o3 o4]
      have hJ3 : J ys (w2.alloc (.cells #[c0, c1, c2, c3, c4] 31)) := hJ ys w2 _ none hJ2 (World.grownBy_alloc w2 _ none) (fun r e => by cases e)
      have hlen : ys.length < es.size := by
        have e1 : ys.length = pre.length := by simpa using congrArg List.length hy
        have e2 := hp.length_eq
        have e3 : 0 < (leftOf es seen).size := by have := List.length_pos_of_mem (a := ⟨ek, .agg #[c0, c1, c2, c3, c4], eb⟩) (l := (leftOf es seen).toList) (by simpa using he); simpa using this
        simp only [List.length_append, Array.length_toList] at e2
        omega
      obtain ⟨fn, tmps, assign, body, hyy, hR⟩ := hY ys ⟨.agg #[c0, c1, c2, c3, c4], c0, c1, c2, c3, c4, rfl, o0, o1, o2, o3, o4⟩ _ hJ3 hlen
      dsimp only at hyy
      gi_wp2
      refine hR.mono ?_
      have h3r : (w2.alloc (.cells #[c0, c1, c2, c3, c4] 31)).heap[W.heap.size]? = some (.mapIter (some b) ck (seen.push eb) ck) := (Below.heap_alloc _ _ _ (Array.getElem?_eq_some_iff.1 hr2).1).trans hr2
      have h3b : (w2.alloc (.cells #[c0, c1, c2, c3, c4] 31)).heap[b]? = some (.map es ck) := (Below.heap_alloc _ _ _ (Array.getElem?_eq_some_iff.1 hb3).1).trans hb3
      rintro e W3 (⟨rfl, hJ4, hk3⟩ | ⟨rfl, hJx3⟩)
      · gi_wp2
        have h4r := hk3.same _ _ h3r rfl
        have h4b := hk3.same _ _ h3b rfl
        have hpp := left_perm (seen := seen) (e := ⟨ek, .agg #[c0, c1, c2, c3, c4], eb⟩) hnd (by simpa using he)
        go_roundw
        case rel =>
          refine ⟨_, pre ++ [⟨ek, .agg #[c0, c1, c2, c3, c4], eb⟩], _, h4r, h4b, ?_, by simp [hy], hJ4⟩
          refine List.Perm.trans ?_ hp
          rw [List.append_assoc]
          exact List.Perm.append_left _ hpp.symm
        case measure =>
          have e2 := hpp.length_eq
          simp only [Array.length_toList, List.length_cons] at e2
          unfold World.rangeLeft
          simp only [h4r, h4b, hr, hb2]
          omega
      · gi_wp2
        refine bodyPost_ret (results_none rfl _ _ _) rfl ?_
        exact ⟨⟨_, rfl⟩, .inr ⟨_, hJx3⟩⟩

/-- maps.Values hands back a value that is ranged over: the map's values come, each once, in some order. -/
theorem values_stops (F : Fence) (n : Nat) (h41 : F.fn 41) (hro : F.round = none) (hn : 1 ≤ n) (Bm b : Nat) (es : Array MapEntry) (ck : Nat) (hs : ∀ x ∈ es.toList, x.born < ck) (hnd : (es.toList.map (·.born)).Nodup) (hE : ∀ x ∈ es.toList, IsHd x.val)
    (w : World) (hBm : w.cell? ⟨Bm, 0, none⟩ = some (.map (some b))) (hBl : Bm < w.heap.size) (hb : w.heap[b]? = some (.map es ck)) :
    SeqStopsK F n Try.prog 41 #[.pointer (some ⟨Bm, 0, none⟩)] (fun x : Hv => #[x.1]) KeepsWalks (fun ys => (ys.map (·.1)).Perm (es.toList.map (·.val))) (fun _ => True) es.size w := fun l J Jx W hW hJ hJx hY h0 =>
  (values1_in F n h41 hro hn l Bm b es ck hs hnd hE J Jx hY W hJ ((hW.cell (p := ⟨Bm, 0, none⟩) hBl).trans hBm) ((hW.block b (Array.getElem?_eq_some_iff.1 hb).1).trans hb) h0).mono
    fun e W' h => ⟨h.1, h.2.elim .inl fun ⟨pre, hp⟩ => .inr ⟨pre, trivial, hp⟩⟩

end Go.Proofs.Ythdcajfjglgiiaa
