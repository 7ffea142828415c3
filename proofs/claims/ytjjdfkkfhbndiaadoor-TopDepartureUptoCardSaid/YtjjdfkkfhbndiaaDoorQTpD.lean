/- slices.Delete at bags (rows of three cells): the walk in memory. -/
import Derived.WalkKit
import Derived.Deep.RegionLaw
import Derived.Lib.SliceRun
import Derived.Shelf.RegionOpenPlain
import Derived.Deep.LoopGhost
import Derived.Lib.Walk
import Derived.Laws.AppendOwn
import Derived.Laws.IdiomCopy
import Derived.Deep.MidRow
import Derived.Test.YtjjdfkkfhbndiaaDoorProg
namespace Go.Proofs.YtjjdfkkfhbndiaaDoor
open Go Go.RowKit Go.Shelf Go.Lib
set_option linter.unusedVariables false
theorem run_clear_one {P : Program} (w : World) (t e ty : TypeId) (z : Value) (ht : P.underlying t = some (.slice e)) (hv : ∀ w, (zeroValue e).run P w = .ok z w) (h1 : ∀ u ∈ z.cells.toList, u.oneCell' = true) (b o c : Nat)
    (hc : ∀ j, j < z.cells.size → (w.cell? ⟨b, o + j, none⟩).isSome = true) (hf : ∀ j, j < z.cells.size → w.frozen? ⟨b, o + j, none⟩ = false) :
    (Builtin.clear_ #[t] ty #[.slice (some ⟨b, o, none⟩) 1 c]).run P w = .ok (.tuple #[]) (w.setCells b o z.cells.toList) := by
  have hzc : (Builtin.zeroCells z.cells 1).toList = z.cells.toList := by
    apply List.ext_getElem
    · simp [Builtin.zeroCells]
    · intro i h1 h2
      have hi : i < z.cells.size := by simpa using h2
      simp [Builtin.zeroCells, Nat.mod_eq_of_lt hi, hi]
  have hst := run_storeCells_cells (P := P) b o z.cells.toList 0 w (by simpa using hc) (by simpa using hf) h1
  simp only [Nat.add_zero] at hst
  simp [Builtin.clear_, run_underlying ht, hv, hzc, hst]
theorem setCells_row (w : World) (b o : Nat) (t : TypeId) (cur : Array Value) (vs : List Value) (hg : w.heap[b]? = some (.cells cur t (0, 0))) (hfit : o + vs.length ≤ cur.size) (h1 : ∀ u ∈ vs, u.oneCell' = true) :
    w.setCells b o vs = w.setRow b (cur.toList.take o ++ vs ++ cur.toList.drop (o + vs.length)).toArray := by
  have a := run_storeCells_at Tryd.prog b o t vs 0 cur w hg (by simpa using hfit) h1
  have c := run_storeCells_cells (P := Tryd.prog) b o vs 0 w (fun j hj => by simp only [World.cell?, hg]; rw [Array.getElem?_eq_getElem (by omega)]; rfl) (fun j hj => by simp [World.frozen?, hg]) h1
  rw [a] at c
  simpa using c.symm
def cutIn (cur : Array Value) (o : Nat) (vs : List Value) : Array Value := (cur.toList.take o ++ vs ++ cur.toList.drop (o + vs.length)).toArray
theorem infoBag : (Tryd.prog.info? 47).map (fun i => (i.size, i.zero)) = some (3, some (.agg #[.int .i64 0, .int .i64 0, .int .i64 0])) := by kernel_rfl
set_option maxHeartbeats 4000000 in
set_option maxRecDepth 1000000 in
theorem delete_raw (blk n cap i j : Nat) (cur : Array Value) (w : World) (hb : w.heap[blk]? = some (.cells cur 47 (0, 0))) (hc : cap * 3 ≤ cur.size) (h1 : ∀ k u, k < n * 3 → cur[k]? = some u → u.oneCell' = true) (hn : n ≤ cap) (hm : cap ≤ 9223372036854775807) (hi : i < n) (hj : j = i + 1) :
    Calls Tryd.prog 37 #[.slice (some ⟨blk, 0, none⟩) n cap, .int .i64 i, .int .i64 (j : Nat)] w fun e w' => e = .returned (.slice (some ⟨blk, 0, none⟩) (n - 1) cap) ∧
      w' = (w.drew.setCells blk (i * 3) ((cur.toList.drop (j * 3)).take ((n - j) * 3))).setCells blk ((n - 1) * 3) [.int .i64 0, .int .i64 0, .int .i64 0] := by
  obtain ⟨i0, hi0, hz1, hz0⟩ : ∃ i0, Tryd.prog.info? 47 = some i0 ∧ i0.size = 3 ∧ i0.zero = some (.agg #[.int .i64 0, .int .i64 0, .int .i64 0]) := by
    have h := infoBag
    cases hq : Tryd.prog.info? 47 with
    | none => rw [hq] at h; cases h
    | some i0 =>
      rw [hq] at h
      simp only [Option.map_some, Option.some.injEq, Prod.mk.injEq] at h
      exact ⟨i0, rfl, h.1, h.2⟩
  obtain ⟨news, hnews⟩ : ∃ news, news = (cur.toList.drop (j * 3)).take ((n - j) * 3) := ⟨_, rfl⟩
  have hlen : news.length = (n - j) * 3 := by
    rw [hnews, List.length_take, List.length_drop, Array.length_toList]
    omega
  have hcell : ∀ (t : Nat) (u : Value), news[t]? = some u → w.drew.cell? ⟨blk, j * 3 + t, none⟩ = some u := fun t u hu => by
    rw [hnews, List.getElem?_take] at hu
    split at hu
    · rw [List.getElem?_drop, Array.getElem?_toList] at hu
      show w.cell? _ = _
      simp only [World.cell?, hb]
      exact hu
    · cases hu
  obtain ⟨A, hA, hsrc⟩ : ∃ A : Addr, (if cap = j then some (⟨blk, 0, none⟩ : Addr) else some ⟨blk, j * 3, none⟩) = some A ∧ Hid (∀ t u, news[t]? = some u → w.drew.cell? (A.add t) = some u) := by
    by_cases h : cap = j
    · refine ⟨⟨blk, 0, none⟩, by simp [h], fun t u hu => ?_⟩
      have h0 : news.length = 0 := by rw [hlen]; omega
      rw [List.length_eq_zero_iff.1 h0] at hu
      simp at hu
    · exact ⟨⟨blk, j * 3, none⟩, by simp [h], fun t u hu => by rw [Addr.add_lit]; exact hcell t u hu⟩
  have s1 : Hid (news.length = (n - j) * 3) := hlen
  have s2 : Hid (∀ u ∈ news, u.oneCell' = true) := fun u hu => by
    obtain ⟨t, ht⟩ := List.getElem?_of_mem hu
    have htl := (List.getElem?_eq_some_iff.1 ht).1
    have := hcell t u ht
    rw [show w.drew.cell? ⟨blk, j * 3 + t, none⟩ = w.cell? ⟨blk, j * 3 + t, none⟩ from rfl] at this
    simp only [World.cell?, hb] at this
    exact h1 _ u (by rw [hlen] at htl; omega) this
  have s3 : Hid (∀ t, t < news.length → (w.drew.cell? ⟨blk, 0 + i * 3 + t, none⟩).isSome = true ∧ w.drew.frozen? ⟨blk, 0 + i * 3 + t, none⟩ = false) := fun t ht => by
    rw [hlen] at ht
    have hlt : 0 + i * 3 + t < cur.size := by omega
    refine ⟨?_, ?_⟩
    · show (w.cell? _).isSome = true
      simp only [World.cell?, hb]
      rw [Array.getElem?_eq_getElem hlt]
      rfl
    · show w.frozen? _ = false
      simp [World.frozen?, hb]
  obtain ⟨W1, hW1⟩ : ∃ W1, W1 = w.drew.setCells blk (0 + i * 3) news := ⟨_, rfl⟩
  have hW : Hid (W1 = w.drew.setCells blk (0 + i * 3) news) := hW1
  have hv : ∀ w, (zeroValue 47).run Tryd.prog w = .ok (.agg #[.int .i64 0, .int .i64 0, .int .i64 0]) w := fun w => by
    simp [zeroValue, typeInfo, hi0, hz0]
  have hp : ∀ k, k < cur.size → (W1.cell? ⟨blk, k, none⟩).isSome = true ∧ W1.frozen? ⟨blk, k, none⟩ = false := fun k hk => by
    rw [hW1]
    refine ⟨World.isSome_setCells blk news _ _ _ ?_, ?_⟩
    · show (w.cell? _).isSome = true
      simp only [World.cell?, hb]
      rw [Array.getElem?_eq_getElem hk]
      rfl
    · rw [World.frozen?_setCells]
      show w.frozen? _ = false
      simp [World.frozen?, hb]
  have hcl : ∀ ty, (Builtin.clear_ #[25] ty #[.slice (some ⟨blk, (n - 1) * 3, none⟩) 1 (cap - (n - 1))]).run Tryd.prog W1 = .ok (.tuple #[]) (W1.setCells blk ((n - 1) * 3) [.int .i64 0, .int .i64 0, .int .i64 0]) := fun ty =>
    run_clear_one W1 25 47 ty _ Tryd.underlying25 hv (by simp [Value.cells, Value.oneCell']) blk ((n - 1) * 3) _ (fun k hk => (hp _ (by simp [Value.cells] at hk; omega)).1) (fun k hk => (hp _ (by simp [Value.cells] at hk; omega)).2)
  have hN : Hid (news = (cur.toList.drop (j * 3)).take ((n - j) * 3)) := hnews
  have hn1 : n - 1 ≤ n := by omega
  have hcn : ¬ cap = n - 1 := by omega
  have hcn1 : n - 1 ≤ cap := by omega
  clear hp
  have mixed : Tryd.prog.follows Departure.mixedOrders = true := by kernel_rfl
  have hic : i ≤ cap := by omega
  have hjc : j ≤ cap := by omega
  have hlt : i < j := by omega
  have hji : j - i = 1 := by omega
  have e1 : i + (n - j) = n - 1 := by omega
  have e2 : n - (n - 1) = 1 := by omega
  clear hW1 hlen hcell hnews
  have hij : i ≤ j := by omega
  have hjn : j ≤ n := by omega
  have hne : ((i : Int) == (j : Int)) = false := by simp; omega
  clear hj
  go_enter Tryd.func37, Tryd.ntmps37
  go_wp2_with fail
  go_region_law_o (refine step_append_room rfl (.tmp 22) (.tmp 25) 25 rfl 47 i0 3 Tryd.underlying25 hi0 hz1 blk 0 i cap (by simp [Act.eval, Act.put]) A (n - j) (cap - j) news (by simp [Act.eval, Act.put]) s1.out hsrc.out s2.out (by omega) s3.out ?_; rw [← hW.out])
  go_wp2
  go_ret
  refine ⟨rfl, ?_⟩
  rw [hW.out, Nat.zero_add, hN.out]
end Go.Proofs.YtjjdfkkfhbndiaaDoor
