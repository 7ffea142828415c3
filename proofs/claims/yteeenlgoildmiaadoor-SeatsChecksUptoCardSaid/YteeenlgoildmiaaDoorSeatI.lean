/- strconv.Itoa over the store: the library's contract, carried over to AL. -/
import Derived.Test.YteeenlgoildmiaaDoorAlM
import Derived.Test.YteeenlgoildmiaaDoorSeatS
import Derived.Lib.ItoaLen
namespace Go.Proofs.YteeenlgoildmiaaDoor
open Go Go.AL Go.Sort
set_option linter.unusedVariables false

theorem ext_grow (ρ : AL.Place) (S : Store) (w : World) (k : Nat) (os : Array Go.Obj) : Ext ρ S w ρ S (grow (w.drewN k) os) := by
  have hb : ∀ g, g < w.heap.size → (grow (w.drewN k) os).heap[g]? = w.heap[g]? := fun g hg => by
    show (w.heap ++ os)[g]? = _
    rw [Array.getElem?_append_left hg]
  refine ⟨rfl, ⟨rfl, Nat.le_add_right _ _⟩, rfl, ?_, fun g hg => ⟨⟨?_, hg.2⟩, hb g hg.1⟩, Nat.le_refl _, fun id o o' h h' => ?_⟩
  · show _ ≤ (w.heap ++ os).size
    rw [Array.size_append]; omega
  · show _ < (w.heap ++ os).size
    rw [Array.size_append]; have := hg.1; omega
  · rw [h] at h'; cases h'; exact ⟨Nat.le_refl _, fun _ c hc => ⟨c, hc, Cont.like_refl c, rfl⟩⟩

theorem inv_grow {ρ : AL.Place} {S : Store} {w : World} (hi : AL.Inv ρ S w) (k : Nat) (os : Array Go.Obj) : AL.Inv ρ S (grow (w.drewN k) os) := by
  have hx := ext_grow ρ S w k os
  have hb : ∀ g, g < w.heap.size → (grow (w.drewN k) os).heap[g]? = w.heap[g]? := fun g hg => by
    show (w.heap ++ os)[g]? = _
    rw [Array.getElem?_append_left hg]
  refine ⟨fun id ver e sz rows hs => ?_, hi.inj, fun id ver rows hs => ?_, tab_of hi hx⟩
  · obtain ⟨h1, h2⟩ := hi.rows id ver e sz rows hs
    refine ⟨h1, ?_⟩
    rcases h2 with h2 | ⟨g, tot, cur, a, b, c, d, f, h⟩
    · exact .inl h2
    · refine .inr ⟨g, tot, cur, a, b, c, ?_, f, fun i r hir j v hj => ?_⟩
      · rw [hb g (Array.getElem?_eq_some_iff.1 d).1]; exact d
      · obtain ⟨u, x, y, z⟩ := h i r hir j v hj
        exact ⟨u, x, y.ext hx, z⟩
  · obtain ⟨g, es, ck, a, b, c⟩ := hi.maps id ver rows hs
    exact ⟨g, es, ck, a, by rw [hb g (Array.getElem?_eq_some_iff.1 b).1]; exact b, c.ext hx⟩

theorem glob0 : Tryd.prog.globalNamed "internal/strconv.uint64pow10" = some 0 := by kernel_rfl

theorem tab0 {ρ : AL.Place} {S : Store} {w : World} (hi : AL.Inv ρ S w) : Lib.TabIs Tryd.prog w "internal/strconv.uint64pow10" .u64 Lib.pow10Tab := by
  obtain ⟨_, t, fr, hh⟩ := hi.tab _ (List.mem_cons_self ..)
  unfold Lib.TabIs World.var?
  rw [glob0]
  show (match w.heap[0]? with | some (.cells cs _ _) => some cs | _ => none) = _
  rw [show w.heap[0]? = _ from hh]
  rfl

theorem itoaG_A {S : Store} (n : Int) (h0 : -9223372036854775808 ≤ n) (h1 : n ≤ 9223372036854775807) : CallA Tryd.prog 29 [.int .i64 n] S fun r S' => r = .str (Lib.itoa n) ∧ S' = S := by
  refine ⟨⟨Tryd.f29, Tryd.func29, by kernel_rfl, by kernel_rfl⟩, fun ρ w us hi hv => ?_⟩
  obtain ⟨hl, hv⟩ := hv
  obtain ⟨u, hu, hr⟩ := hv 0 _ rfl
  cases hr
  have : us = #[.int .i64 n] := by
    apply Array.ext
    · simpa using hl
    · intro i hi1 hi2
      have h0' : i = 0 := by simp at hi2; exact hi2
      subst h0'
      rw [Array.getElem?_eq_getElem hi1] at hu
      exact Option.some.inj hu
  subst this
  refine (Go.Proofs.Tryd.strconv_Itoa n h0 h1 w (tab0 hi)).mono fun en w' ⟨he, k, os, hw⟩ => ?_
  subst hw
  refine ⟨ρ, S, _, _, he, .str (by simp) ?_, inv_grow hi k os, ext_grow ρ S w k os, rfl, rfl⟩
  have := Lib.itoa_length_le n h0 h1
  show (Lib.itoa n).toArray.size ≤ maxLen
  rw [List.size_toArray]
  unfold maxLen
  omega
end Go.Proofs.YteeenlgoildmiaaDoor
