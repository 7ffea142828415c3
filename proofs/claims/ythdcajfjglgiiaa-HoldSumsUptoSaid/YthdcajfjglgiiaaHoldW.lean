/- slices.AppendSeq over maps.Values, in memory. -/
import Derived.Test.YthdcajfjglgiiaaHoldV
namespace Go.Proofs.Ythdcajfjglgiiaa
open Go Go.RowKit Go.Shelf
attribute [local go_sem] Oper.semAt_some
set_option linter.unusedVariables false

def aggC : Value → List Value
  | .agg cs => cs.toList
  | _ => []
def cellsOf (ys : List Hv) : List Value := ys.flatMap fun y => aggC y.1
theorem cellsOf_snoc (ys : List Hv) (y : Hv) : cellsOf (ys ++ [y]) = cellsOf ys ++ aggC y.1 := by simp [cellsOf]
theorem info31 : (Try.prog.info? 31).map (fun i => (i.zero, i.size, i.bytes)) = some (some (.agg #[.int .i64 0, .slice none 0 0, .string ⟨#[]⟩, .int .i64 0, .int .i64 0]), 5, 64) := by kernel_rfl

theorem cells_new (w : World) (l : List Value) (t : TypeId) : ∀ j u, l[j]? = some u → (w.alloc (.cells l.toArray t)).cell? ((⟨w.heap.size, 0, none⟩ : Addr).add j) = some u := by
  intro j u hj
  have h : (w.alloc (.cells l.toArray t)).heap[w.heap.size]? = some (.cells l.toArray t (0, 0)) := World.alloc_heap_new _ _
  have e : (⟨w.heap.size, 0, none⟩ : Addr).add j = ⟨w.heap.size, j, none⟩ := by unfold Addr.add; split <;> simp_all
  rw [e]
  unfold World.cell?
  rw [h]
  simpa using hj
theorem KeepsOthers.walks {A B : World} (h : KeepsOthers A B) : KeepsWalks A B := ⟨h.size, fun k o hk ho => h.same k o hk (Obj.not_cells_of_walk ho)⟩

/-- Behind the assignment to the loop's variable: it lies in a box of its own. -/
def AxV (w : World) (Bm : Nat) (x : Hv) (a' : Act) (W : World) : Prop := ∃ Bx, w.heap.size < Bx ∧ ∃ c0 c1 c2 c3 c4 : Value, x.1 = .agg #[c0, c1, c2, c3, c4] ∧ c0.oneCell' = true ∧ c1.oneCell' = true ∧ c2.oneCell' = true ∧ c3.oneCell' = true ∧ c4.oneCell' = true ∧
  W.heap[Bx]? = some (.cells #[c0, c1, c2, c3, c4] 31 (0, 0)) ∧
  a' = { tmps := #[.slice none 0 0, .func (.func 41) #[] #[.pointer (some ⟨Bm, 0, none⟩)], .pointer (some ⟨w.heap.size, 0, none⟩), undef, .slice none 0 0, .pointer (some ⟨Bx, 0, none⟩), .func (.func 41) #[] #[.pointer (some ⟨Bm, 0, none⟩)], .agg #[c0, c1, c2, c3, c4], undef, undef, undef, undef, undef], defers := [] }
theorem ax_own (w : World) (Bm : Nat) {k : Nat} (x : Hv) (a' : Act) : OwnFrom k (fun (_ : Unit) W => AxV w Bm x a' W) := by
  rintro s A B row ⟨Bx, h1, c0, c1, c2, c3, c4, h2, o0, o1, o2, o3, o4, h3, h4⟩ hg hr
  refine ⟨Bx, h1, c0, c1, c2, c3, c4, h2, o0, o1, o2, o3, o4, (hg.block Bx (Array.getElem?_eq_some_iff.1 h3).1 fun e => ?_).trans h3, h4⟩
  obtain ⟨_, o, ho, hc⟩ := hr Bx e.symm
  rw [h3] at ho
  cases ho
  cases hc

set_option maxRecDepth 100000 in
set_option maxHeartbeats 2000000 in
theorem seq_in (F : Fence) (n : Nat) (h44 : F.fn 44) (h41 : F.fn 41) (hro : F.round = none) (hn : 3 ≤ n) (Bm b : Nat) (es : Array MapEntry) (ck : Nat) (hs : ∀ x ∈ es.toList, x.born < ck) (hnd : (es.toList.map (·.born)).Nodup) (hE : ∀ x ∈ es.toList, IsHd x.val)
    (hlen : es.size ≤ maxLen) (hbytes : es.size * 64 ≤ 140737488355328) (w : World) (hBm : w.cell? ⟨Bm, 0, none⟩ = some (.map (some b))) (hBl : Bm < w.heap.size) (hb : w.heap[b]? = some (.map es ck)) :
    CallsIn F n Try.prog 44 #[.slice none 0 0, .func (.func 41) #[] #[.pointer (some ⟨Bm, 0, none⟩)]] w fun e W' => ∃ (v : Value) (ys : List Hv), e = .returned v ∧ W'.ownsRow w.heap.size 31 5 v ys.length (cellsOf ys) ∧ (v = .slice none 0 0 ↔ ys = []) ∧
      (ys.map (·.1)).Perm (es.toList.map (·.val)) ∧ Below w.heap.size w W' := by
  have h1 : 1 ≤ n := by omega
  obtain ⟨i0, hi, hz0, hz1, hz2⟩ := info_parts info31
  refine callsIn_of_wp_marks Try.func44 rfl h44 ?_ hro
  simp only [Try.ntmps44, List.size_toArray, List.length_cons, List.length_nil, Nat.reduceAdd, Nat.reduceSub, Array.replicate_succ, Array.replicate_zero, List.push_toArray, List.append_toArray, List.nil_append, List.cons_append]
  gi_wp2
  have bO := Boxed.new w 32 (.slice none 0 0)
  have hB0 : Below w.heap.size w (w.alloc (.cells #[.slice none 0 0] 32)) := (Below.refl _ w).alloc (Nat.le_refl _) _
  have hcB : (w.alloc (.cells #[.slice none 0 0] 32)).cell? ⟨Bm, 0, none⟩ = some (.map (some b)) := (hB0.cell (p := ⟨Bm, 0, none⟩) hBl).trans hBm
  have hbB : (w.alloc (.cells #[.slice none 0 0] 32)).heap[b]? = some (.map es ck) := (hB0.block b (Array.getElem?_eq_some_iff.1 hb).1).trans hb
  refine wpIn_rangeFunc_ownH hro h1 (gf := 41) (lb := #[.pointer (some ⟨Bm, 0, none⟩)]) rfl h41 (enters_of Try.func41 (by kernel_rfl) rfl)
    (values_stops F (n - 1) h41 hro (by omega) Bm b es ck hs hnd hE _ hcB (by simp; omega) hbB) walksK_t walksK_b (Below.refl _ _) (fun _ => rfl)
    (fun pre W => (∃ v, Boxed W w.heap.size 32 v ∧ W.ownsRow w.heap.size 31 5 v pre.length (cellsOf pre) ∧ (v = .slice none 0 0 ↔ pre = [])) ∧ Below w.heap.size w W)
    (fun _ _ _ => False)
    (OwnFrom.and (Own.from (holdsRow_own w.heap.size w.heap.size 32 31 5 (fun pre : List Hv => pre.length) (fun pre => cellsOf pre) (fun pre v => v = .slice none 0 0 ↔ pre = [])) _) (ownFrom_below (Nat.le_refl _) (by simp)))
    (fun _ _ _ _ _ hs _ _ => hs)
    ⟨⟨_, bO, World.ownsRow_nil _ _ _ _, by simp⟩, hB0⟩
    (AxV w Bm) (ax_own w Bm) ?assign ?body ?done ?stop
  case assign =>
    rintro l pre ⟨x, c0, c1, c2, c3, c4, rfl, o0, o1, o2, o3, o4⟩ W K ⟨⟨v, hv, hrow, hnil⟩, hB⟩ hK
    gi_wp2
    rw [stores5 W 31 _ _ _ _ _ o0 o1 o2 o3 o4]
    gi_wp2
    exact hK _ _ ((KeepsOthers.alloc _ _).from _) (KeepsOthers.walks (KeepsOthers.alloc _ _)) ⟨⟨v, hv.alloc _, hrow.alloc _, hnil⟩, (hB.trans ((Below.refl _ W).alloc hB.size _))⟩
      ⟨W.heap.size, (Array.getElem?_eq_some_iff.1 (show W.heap[w.heap.size]? = some _ from hv)).1, c0, c1, c2, c3, c4, rfl, o0, o1, o2, o3, o4, World.alloc_heap_new _ _, rfl⟩
  case body =>
    rintro l pre x a' W hl ⟨r, hr⟩ ⟨⟨v, hv, hrow, hnil⟩, hB⟩ ⟨Bx, hBx, c0, c1, c2, c3, c4, hx, o0, o1, o2, o3, o4, hbx, rfl⟩ hlt
    have hc := hv.cell
    have cc : ∀ i u, #[c0, c1, c2, c3, c4][i]? = some u → W.cell? ⟨Bx, i, none⟩ = some u := fun i u hu => by unfold World.cell?; rw [hbx]; exact hu
    have d0 := cc 0 c0 rfl; have d1 := cc 1 c1 rfl; have d2 := cc 2 c2 rfl; have d3 := cc 3 c3 rfl; have d4 := cc 4 c4 rfl
    have hcx : cellsOf (pre ++ [x]) = cellsOf pre ++ [c0, c1, c2, c3, c4] := by rw [cellsOf_snoc, hx]; rfl
    gi_wp2_with (gi_at_builtin; refine wpListIn_append_own _ rfl _ _ 32 rfl w.heap.size 31 i0 _ 5 64 Try.underlying32 hi hz0 hz1 hz2 rfl (by decide) _ _ _ rfl (hrow.alloc _) ⟨W.heap.size, 0, none⟩ 1 1 [c0, c1, c2, c3, c4] rfl rfl (cells_new _ _ _) (by simp [o0, o1, o2, o3, o4]) (by omega) (by omega) (by have := hB.size; simp; omega) ?_; intro v' w1 hown' hgrow _; obtain ⟨g', cap', rfl⟩ := ownsRow_succ hown'; obtain ⟨hv1, hv2, hr2, hk2, hb2⟩ := hv.appended (by decide) hrow hB.size (Nat.le_refl _) hown' hgrow; have hc1 := hv1.cell; have hf1 := hv1.frozen)
    refine ⟨hk2.from _, KeepsOthers.walks hk2, ⟨_, hv2, ?_, by simp⟩, hB.trans hb2⟩
    rw [hcx]
    simpa using hr2
  case done =>
    rintro D ys W hD hp ⟨⟨v, hv, hrow, hnil⟩, hB⟩ hK
    have hc := hv.cell
    gi_wp2
    refine ⟨by simp, .inl ⟨_, _, rfl, run_takeDeferred hK, ?_⟩⟩
    exact ⟨_, results_tmp rfl _ _ _, v, ys, rfl, ownsRow_putObj hrow _ hK rfl, hnil, hp, hB.trans (belowK_b (w := w) (Nat.le_refl _) W D _ _ (by simp at hD; omega) hK rfl rfl)⟩
  case stop =>
    rintro D c pre W _ _ h _
    exact h.elim
end Go.Proofs.Ythdcajfjglgiiaa
