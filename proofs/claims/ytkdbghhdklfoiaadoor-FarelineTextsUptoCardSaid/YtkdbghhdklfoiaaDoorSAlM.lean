/- Maps whose keys are numbers or texts: what is found after an update. -/
import Derived.Test.YtkdbghhdklfoiaaDoorSAlX
import Derived.Below
import Derived.Laws.AppendOwn
namespace Go.AL
set_option linter.unusedSectionVars false
variable [Mode]
set_option linter.unusedSimpArgs false
set_option linter.unusedVariables false
def KeysK {α : Type} (K : α → V) (rows : List (V × V)) : Prop := ∀ p ∈ rows, (∃ a, p.1 = K a) ∧ p.1.isImm = true ∧ p.2.isImm = true
section
variable {α : Type} {K : α → V} {rows : List (V × V)}
theorem KeysK.nil : KeysK K [] := fun p h => by cases h
theorem putV_mem {k v : V} : ∀ {rows : List (V × V)} {p : V × V}, p ∈ putV k v rows → p = (k, v) ∨ p ∈ rows
  | [], p, h => by simp only [putV, List.mem_singleton] at h; exact .inl h
  | q :: rows, p, h => by
    rw [putV] at h
    split at h
    · rcases List.mem_cons.1 h with h | h
      · exact .inl h
      · exact .inr (List.mem_cons_of_mem _ h)
    · rcases List.mem_cons.1 h with h | h
      · exact .inr (by rw [h]; exact List.mem_cons_self ..)
      · exact (putV_mem h).imp id (List.mem_cons_of_mem _)
theorem KeysK.put (h : KeysK K rows) {a : α} {v : V} (hk : (K a).isImm = true) (hv : v.isImm = true) : KeysK K (putV (K a) v rows) := fun p hp => by
  rcases putV_mem hp with rfl | hp
  · exact ⟨⟨a, rfl⟩, hk, hv⟩
  · exact h p hp
end
end Go.AL
/- A call that told only what lies below: its end world, and a row of cells that it made, over the store. -/
namespace Go.AL
open Go.RowKit
set_option linter.unusedSectionVars false
variable [Mode] [LooseM]
set_option linter.unusedSimpArgs false
set_option linter.unusedVariables false
section
variable {P : Program} {ρ : Place} {S : Store} {w : World}
theorem ext_below {w' : World} (hb : Below w.heap.size w w') : Ext ρ S w ρ S w' := by
  refine ⟨hb.os, ⟨hb.tape, fun e => absurd e LooseM.no⟩, hb.output, hb.size, fun g hg => ⟨⟨?_, hg.2⟩, hb.block g hg.1⟩, Nat.le_refl _, fun id o o' h h' => ?_⟩
  · have := hg.1; have := hb.size; omega
  · rw [h] at h'; cases h'; exact ⟨Nat.le_refl _, fun _ c hc => ⟨c, hc, Cont.like_refl c, rfl⟩⟩
theorem inv_below {w' : World} (hi : Inv ρ S w) (hw : Below w.heap.size w w') : Inv ρ S w' := by
  have hx := ext_below (ρ := ρ) (S := S) hw
  refine ⟨fun id ver e sz rows hs => ?_, hi.inj, maps_of hi hx (fun id ver rows hs => ⟨hs, rfl⟩) (fun id ver rows g hs hg => hw.block g (hi.block hs rfl hg)), tab_of hi hx⟩
  obtain ⟨h1, h2⟩ := hi.rows id ver e sz rows hs
  refine ⟨h1, ?_⟩
  rcases h2 with h2 | ⟨g, tot, cur, a, b, c, d, f, h⟩
  · exact .inl h2
  · refine .inr ⟨g, tot, cur, a, b, c, ?_, f, fun i r hir j v hj => ?_⟩
    · rw [hw.block g (Array.getElem?_eq_some_iff.1 d).1]; exact d
    · obtain ⟨u, x, y, z⟩ := h i r hir j v hj
      exact ⟨u, x, y.ext hx, z⟩
def LR (ρ : Place) (S : Store) (w : World) (sz : Nat) (rows : List (List V)) (xs : List Value) : Prop :=
  (∀ (i : Nat) (r : List V), rows[i]? = some r → r.length = sz) ∧ ∀ (i : Nat) (r : List V), rows[i]? = some r → ∀ (j : Nat) (v : V), r[j]? = some v → ∃ u, xs[i * sz + j]? = some u ∧ VR ρ S w false v u ∧ u.oneCell' = true
theorem row_imm (hi : Inv ρ S w) {w' : World} {t : TypeId} {sz n : Nat} {v : Value} {xs : List Value} {rows : List (List V)} (hw : Below w.heap.size w w') (hown : w'.ownsRow w.heap.size t sz v n xs) (hn : rows.length = n) (h0 : 0 < n) (hr : LR ρ S w sz rows xs) (him : ∀ r ∈ rows, V.allImm r = true) (b : Bool) :
    VR ρ S w' b (.sl sz rows) v := by
  have hx := ext_below (ρ := ρ) (S := S) hw
  obtain ⟨hl, h⟩ := hown
  rcases h with ⟨_, h⟩ | ⟨g, cap, cur, rfl, hb, hg, h1, h2, h3, h4⟩
  · omega
  · have hcell : ∀ (i : Nat) (r : List V), rows[i]? = some r → ∀ (j : Nat) (y : V), r[j]? = some y → ∃ u, cur[i * sz + j]? = some u ∧ VR ρ S w false y u ∧ u.oneCell' = true := by
      intro i r hir j y hj
      obtain ⟨u, a, b, c⟩ := hr.2 i r hir j y hj
      refine ⟨u, ?_, b, c⟩
      rw [← h4, List.getElem?_take] at a
      split at a
      · simpa using a
      · cases a
    refine .sl (fun i j => (cur[i * sz + j]?).getD Go.undef) ⟨(Array.getElem?_eq_some_iff.1 hg).1, fun id o c g' tot ho hc hr' he => ?_⟩ hn.symm h1 h2 hr.1 (fun i r hir j y hj => ?_) (fun i r hir j y hj => ?_) (fun i r hir j y hj => ?_)
    · have := hi.block ho hc hr'
      omega
    · obtain ⟨u, a, _⟩ := hcell i r hir j y hj
      rw [a]
      unfold World.cell?
      simp only [hg, Nat.zero_add]
      simpa using a
    · obtain ⟨u, a, b', _⟩ := hcell i r hir j y hj
      rw [a]
      exact (b'.ext hx).toImm (V.allImm_get (him r (List.mem_of_getElem? hir)) j y hj) true
    · obtain ⟨u, a, _, c⟩ := hcell i r hir j y hj
      rw [a]
      exact c
end
end Go.AL
/- A list that grows row by row behind a store: nil, or the one object behind it. -/
namespace Go.AL
open Go.RowKit
set_option linter.unusedSectionVars false
variable [Mode]
set_option linter.unusedSimpArgs false
set_option linter.unusedVariables false
theorem LoopA.sub {P : Program} {N : Nat} {σ : Base} {b : ACode} {Q : Exit → Env → Store → Prop} {E0 E : Env} {S : Store} (h : LoopA P N σ b Q E0 S) (hs : sub E0 E) : LoopA P N σ b Q E S := fun c own hc ρ a w hx hr => h c own hc ρ a w hx (hr.sub hs)
end Go.AL
/- A cell of an object told anew: a nil slice there may be told as an owned slice of no elements. -/
namespace Go.AL
set_option linter.unusedSectionVars false
variable [Mode]
set_option linter.unusedSimpArgs false
set_option linter.unusedVariables false
variable {P : Program} {ρ : Place} {S : Store} {w : World}
end Go.AL
/- Ways that meet (a walk cut into stages), and a list that grows behind a store with other objects beside it. -/
namespace Go.AL
open Go.RowKit
set_option linter.unusedSectionVars false
variable [Mode]
set_option linter.unusedSimpArgs false
set_option linter.unusedVariables false
theorem stageA {P : Program} {N : Nat} {σ : Base} {A B : ACode} {Q : Exit → Env → Store → Prop} {E : Env} {S : Store} (I : Env → Store → Prop)
    (hA : ∀ K : Env → Store → Prop, (∀ E' S', I E' S' → K E' S') → wpA P N σ A (thenA K Q) E S) (hB : ∀ E' S', I E' S' → wpA P N σ B Q E' S') : wpA P N σ (.seq A B) Q E S :=
  hA _ hB
structure LG (S : Store) (q : TypeId) (sz : Nat) (rows : List (List V)) (v : V) (S' : Store) : Prop where
  ext : ∃ T, S' = S ++ T
  here : (v = .nilSl ∧ rows = []) ∨ ∃ id ver, S.length ≤ id ∧ v = .msl id ver 0 rows.length ∧ S'.obj? id ver = some (q, sz, rows)
theorem LG.nil {S : Store} {q : TypeId} {sz : Nat} (T : Store) : LG S q sz [] .nilSl (S ++ T) := ⟨⟨T, rfl⟩, .inl ⟨rfl, rfl⟩⟩
theorem LG.nil0 {S : Store} {q : TypeId} {sz : Nat} : LG S q sz [] .nilSl S := ⟨⟨[], by simp⟩, .inl ⟨rfl, rfl⟩⟩
theorem obj_add {S X : Store} {id ver : Nat} {r : TypeId × Nat × List (List V)} (h : S.obj? id ver = some r) : (S ++ X).obj? id ver = some r := by
  have hlt : id < S.length := by
    unfold Store.obj? at h
    split at h
    · rename_i h2
      exact (List.getElem?_eq_some_iff.1 h2).1
    · cases h
  unfold Store.obj? at *
  rw [List.getElem?_append_left hlt]
  exact h
theorem LG.add {S : Store} {q : TypeId} {sz : Nat} {rows : List (List V)} {v : V} {S' : Store} (h : LG S q sz rows v S') (X : Store) : LG S q sz rows v (S' ++ X) := by
  obtain ⟨⟨T, rfl⟩, h2⟩ := h
  refine ⟨⟨T ++ X, by simp⟩, ?_⟩
  rcases h2 with h2 | ⟨id, ver, h3, h4, h5⟩
  · exact .inl h2
  · exact .inr ⟨id, ver, h3, h4, obj_add h5⟩
theorem obj_set {S : Store} {id ver ver' : Nat} {q : TypeId} {sz : Nat} {rows rows' : List (List V)} (h : S.obj? id ver = some (q, sz, rows)) : Store.obj? (S.set id ⟨ver', some (.arr q sz rows')⟩) id ver' = some (q, sz, rows') := by
  have hlt : id < S.length := by
    unfold Store.obj? at h
    split at h
    · rename_i h2
      exact (List.getElem?_eq_some_iff.1 h2).1
    · cases h
  unfold Store.obj?
  rw [List.getElem?_set_self hlt]
  simp
theorem obj_lt {S : Store} {id ver : Nat} {r : TypeId × Nat × List (List V)} (h : S.obj? id ver = some r) : id < S.length := by
  unfold Store.obj? at h
  split at h
  · rename_i h2
    exact (List.getElem?_eq_some_iff.1 h2).1
  · cases h
theorem LG.app {S : Store} {q : TypeId} {sz : Nat} {rows : List (List V)} {v : V} {S' : Store} (h : LG S q sz rows v S') {rs : List (List V)} {K : V → Store → Prop} (hl : rows.length + rs.length ≤ 1000000000)
    (k : ∀ v' S'', LG S q sz (rows ++ rs) v' S'' → K v' S'') : appK q sz v (some (sz, rs)) S' K := by
  obtain ⟨⟨T, rfl⟩, h2⟩ := h
  rcases h2 with ⟨rfl, rfl⟩ | ⟨id, ver, h3, rfl, h5⟩
  · rw [app_nil]
    refine ⟨by unfold roomA; simp at hl; omega, k _ _ ⟨⟨T ++ [⟨0, some (.arr q sz rs)⟩], by simp⟩, .inr ⟨(S ++ T).length, 0, by simp, by simp, ?_⟩⟩⟩
    rw [List.nil_append]
    exact (ob_app0 (S := S ++ T)).trans ob_head
  · rw [app_msl, h5, appO_some]
    refine ⟨rfl, by unfold roomA; omega, k _ _ ⟨⟨T.set (id - S.length) ⟨ver + 1, some (.arr q sz (rows ++ rs))⟩, ?_⟩, .inr ⟨id, ver + 1, h3, by simp, obj_set h5⟩⟩⟩
    rw [List.set_append_right _ _ h3]
theorem LG.len {S : Store} {q : TypeId} {sz : Nat} {rows : List (List V)} {v : V} {S' : Store} (h : LG S q sz rows v S') : lenAV S' v = some (.int .i64 (rows.length : Nat)) := by
  rcases h.here with ⟨rfl, rfl⟩ | ⟨id, ver, h3, rfl, h5⟩ <;> rfl
theorem LG.fin {S : Store} {q : TypeId} {sz : Nat} {rows : List (List V)} {v : V} {S' : Store} (h : LG S q sz rows v S') (hn : Neat S) (hr : ∀ r ∈ rows, r.length = sz ∧ V.allImm r = true) : Fgt S' S ∧ Frz S' S v (.sl sz rows) := by
  obtain ⟨⟨T, rfl⟩, h2⟩ := h
  refine ⟨hn.fgt T, ?_⟩
  rcases h2 with ⟨rfl, rfl⟩ | ⟨id, ver, h3, rfl, h5⟩
  · exact .nil
  · exact .sl (t := q) h3 h5 (by simp) hr
theorem LG.fgt {S : Store} {q : TypeId} {sz : Nat} {rows : List (List V)} {v : V} {S' : Store} (h : LG S q sz rows v S') (hn : Neat S) : Fgt S' S := by
  obtain ⟨⟨T, rfl⟩, h2⟩ := h
  exact hn.fgt T
end Go.AL
