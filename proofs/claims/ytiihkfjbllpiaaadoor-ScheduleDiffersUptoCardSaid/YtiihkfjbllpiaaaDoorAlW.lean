/- A call that told only what lies below: its end world, and a row of cells that it made, over the store. -/
import Derived.Test.YtiihkfjbllpiaaaDoorAlM
import Derived.Below
import Derived.Laws.AppendOwn
namespace Go.AL
open Go.RowKit
set_option linter.unusedSectionVars false
variable [Mode] [LooseM]
set_option linter.unusedSimpArgs false
set_option linter.unusedVariables false
section
variable {P : Program} {ρ : Place} {S : Store} {w : World}

theorem ext_below {w' : World} (hb : Below w.heap.size w w') : Ext ρ S w ρ S w' := by
  refine ⟨hb.os, ⟨hb.tape, fun e => absurd e LooseM.no⟩, hb.output, hb.size, fun g hg => ⟨⟨?_, hg.2⟩, hb.block g hg.1⟩, Nat.le_refl _, fun id o o' h h' => ?_⟩
  · have := hg.1; have := hb.size; omega
  · rw [h] at h'; cases h'; exact ⟨Nat.le_refl _, fun _ c hc => ⟨c, hc, Cont.like_refl c, rfl⟩⟩

theorem inv_below {w' : World} (hi : Inv ρ S w) (hw : Below w.heap.size w w') : Inv ρ S w' := by
  have hx := ext_below (ρ := ρ) (S := S) hw
  refine ⟨fun id ver e sz rows hs => ?_, hi.inj, maps_of hi hx (fun id ver rows hs => ⟨hs, rfl⟩) (fun id ver rows g hs hg => hw.block g (hi.block hs rfl hg)), tab_of hi hx⟩
  obtain ⟨h1, h2⟩ := hi.rows id ver e sz rows hs
  refine ⟨h1, ?_⟩
  rcases h2 with h2 | ⟨g, tot, cur, a, b, c, d, f, h⟩
  · exact .inl h2
  · refine .inr ⟨g, tot, cur, a, b, c, ?_, f, fun i r hir j v hj => ?_⟩
    · rw [hw.block g (Array.getElem?_eq_some_iff.1 d).1]; exact d
    · obtain ⟨u, x, y, z⟩ := h i r hir j v hj
      exact ⟨u, x, y.ext hx, z⟩

/-- An object more: its block is a new one, wherever it lies. -/
theorem push_far (hi : Inv ρ S w) {w' : World} {g tot sz ver : Nat} {t : TypeId} {rows : List (List V)} {cur : Array Value} (hg : w.heap.size ≤ g) (hsz : w.heap.size ≤ w'.heap.size) (hos : w'.os = w.os) (htp : w'.tape = w.tape) (hout : w'.output = w.output)
    (hold : ∀ k, k < w.heap.size → w'.heap[k]? = w.heap[k]?) (hnew : w'.heap[g]? = some (.cells cur t (0, 0))) (hlen : rows.length ≤ tot) (htot : tot ≤ maxLen) (hcur : cur.size = tot * sz) (hrr : RRH ρ S w sz rows cur) :
    Inv (upd ρ S.length g tot) (S ++ [⟨ver, some (.arr t sz rows)⟩]) w' ∧ Ext ρ S w (upd ρ S.length g tot) (S ++ [⟨ver, some (.arr t sz rows)⟩]) w' := by
  have hx : Ext ρ S w (upd ρ S.length g tot) (S ++ [⟨ver, some (.arr t sz rows)⟩]) w' := by
    refine ⟨hos, ⟨htp, fun e => absurd e LooseM.no⟩, hout, by omega, fun k hk => ⟨⟨by have := hk.1; omega, fun id o c g' tot' ho hst hr => ?_⟩, hold k hk.1⟩, by simp, fun id o o' ho ho' => ?_⟩
    · by_cases hid : id = S.length
      · subst hid
        simp only [upd, if_true, Option.some.injEq, Prod.mk.injEq] at hr
        have := hk.1
        omega
      · rw [List.getElem?_append_left (by have := (List.getElem?_eq_some_iff.1 ho).1; simp at this; omega)] at ho
        simp only [upd, hid, if_false] at hr
        exact hk.2 id o c g' tot' ho hst hr
    · have hlt := (List.getElem?_eq_some_iff.1 ho).1
      rw [List.getElem?_append_left hlt, ho] at ho'
      cases ho'
      exact ⟨Nat.le_refl _, fun _ c hc => ⟨c, hc, Cont.like_refl c, by simp [upd, Nat.ne_of_lt hlt]⟩⟩
  refine ⟨⟨fun id v e s rs hs => ?_, fun i j o p c d q x y ho hp hc hd hr hr' => ?_, maps_of hi hx (fun id v rs hs => ?_) (fun id v rs q hs hq => ?_), tab_of hi hx⟩, hx⟩
  · by_cases hid : id = S.length
    · subst hid
      rw [List.getElem?_append_right (Nat.le_refl _)] at hs
      simp at hs
      obtain ⟨_, rfl, rfl, rfl⟩ := hs
      exact ⟨hrr.1, .inr ⟨g, tot, cur, by simp [upd], hlen, htot, hnew, hcur, (hrr.ext hx).2⟩⟩
    · rw [List.getElem?_append_left (by have := (List.getElem?_eq_some_iff.1 hs).1; simp at this; omega)] at hs
      obtain ⟨h1, h2⟩ := hi.rows id v e s rs hs
      refine ⟨h1, ?_⟩
      simp only [upd, hid, if_false]
      rcases h2 with h2 | ⟨g', tot', cur', a, b, c, d, f, k⟩
      · exact .inl h2
      · refine .inr ⟨g', tot', cur', a, b, c, ?_, f, fun i r hir j y hj => ?_⟩
        · rw [hold g' (Array.getElem?_eq_some_iff.1 d).1]; exact d
        · obtain ⟨u, hu, hv, h1⟩ := k i r hir j y hj
          exact ⟨u, hu, hv.ext hx, h1⟩
  · have blk : ∀ (i : Nat) (o : Obj) (c : Cont) (q x : Nat), S[i]? = some o → o.st = some c → ρ i = some (q, x) → q < w.heap.size := by
      intro i o c q x ho hc hr
      exact hi.block ho hc hr
    have low : ∀ (i : Nat) (o : Obj), (S ++ [⟨ver, some (.arr t sz rows)⟩])[i]? = some o → i ≠ S.length → S[i]? = some o ∧ i < S.length := by
      intro i o ho hne
      have hlt : i < S.length := by have := (List.getElem?_eq_some_iff.1 ho).1; simp at this; omega
      exact ⟨by rwa [List.getElem?_append_left hlt] at ho, hlt⟩
    by_cases h1 : i = S.length <;> by_cases h2 : j = S.length
    · rw [h1, h2]
    · exfalso
      obtain ⟨hp', _⟩ := low j p hp h2
      simp only [upd, h1, if_true, Option.some.injEq, Prod.mk.injEq] at hr
      simp only [upd, h2, if_false] at hr'
      have := blk j p d q y hp' hd hr'
      omega
    · exfalso
      obtain ⟨ho', _⟩ := low i o ho h1
      simp only [upd, h2, if_true, Option.some.injEq, Prod.mk.injEq] at hr'
      simp only [upd, h1, if_false] at hr
      have := blk i o c q x ho' hc hr
      omega
    · obtain ⟨ho', _⟩ := low i o ho h1
      obtain ⟨hp', _⟩ := low j p hp h2
      simp only [upd, h1, if_false] at hr
      simp only [upd, h2, if_false] at hr'
      exact hi.inj i j o p c d q x y ho' hp' hc hd hr hr'
  · by_cases hid : id = S.length
    · subst hid
      rw [List.getElem?_append_right (Nat.le_refl _)] at hs
      simp at hs
    · rw [List.getElem?_append_left (by have := (List.getElem?_eq_some_iff.1 hs).1; simp at this; omega)] at hs
      exact ⟨hs, by simp [upd, hid]⟩
  · by_cases hid : id = S.length
    · subst hid
      rw [List.getElem?_append_right (Nat.le_refl _)] at hs
      simp at hs
    · rw [List.getElem?_append_left (by have := (List.getElem?_eq_some_iff.1 hs).1; simp at this; omega)] at hs
      exact hold q (hi.block hs rfl hq)

/-- What a list of cells says. -/
def LR (ρ : Place) (S : Store) (w : World) (sz : Nat) (rows : List (List V)) (xs : List Value) : Prop :=
  (∀ (i : Nat) (r : List V), rows[i]? = some r → r.length = sz) ∧ ∀ (i : Nat) (r : List V), rows[i]? = some r → ∀ (j : Nat) (v : V), r[j]? = some v → ∃ u, xs[i * sz + j]? = some u ∧ VR ρ S w false v u ∧ u.oneCell' = true

/-- A row of cells that a call made: an object more. -/
theorem row_obj (hi : Inv ρ S w) {w' : World} {t : TypeId} {sz n : Nat} {v : Value} {xs : List Value} {rows : List (List V)} (hw : Below w.heap.size w w') (hown : w'.ownsRow w.heap.size t sz v n xs) (hn : rows.length = n) (h0 : 0 < n) (hr : LR ρ S w sz rows xs) :
    ∃ ρ', Inv ρ' (S ++ [⟨0, some (.arr t sz rows)⟩]) w' ∧ Ext ρ S w ρ' (S ++ [⟨0, some (.arr t sz rows)⟩]) w' ∧ VR ρ' (S ++ [⟨0, some (.arr t sz rows)⟩]) w' false (.msl S.length 0 0 n) v := by
  obtain ⟨hl, h⟩ := hown
  rcases h with ⟨_, h⟩ | ⟨g, cap, cur, rfl, hb, hg, h1, h2, h3, h4⟩
  · omega
  · have hrr : RRH ρ S w sz rows cur := by
      refine ⟨hr.1, fun i r hir j v hj => ?_⟩
      obtain ⟨u, a, b, c⟩ := hr.2 i r hir j v hj
      refine ⟨u, ?_, b, c⟩
      rw [← h4, List.getElem?_take] at a
      split at a
      · simpa using a
      · cases a
    obtain ⟨k1, k2⟩ := push_far (ver := 0) hi hb hw.size hw.os hw.tape hw.output hw.block hg (by omega) h2 h3 hrr
    exact ⟨_, k1, k2, .msl (by simp) (fun o ho => by rw [List.getElem?_append_right (Nat.le_refl _)] at ho; simp at ho; rw [← ho]; exact Nat.le_refl _)
      (fun e s rs hs => by
        rw [List.getElem?_append_right (Nat.le_refl _)] at hs
        simp at hs
        obtain ⟨_, _, rfl⟩ := hs
        exact ⟨by omega, .inr (.inl ⟨g, cap, cap, by simp [upd], by simp, by omega, by omega, by omega⟩)⟩) ⟨_, _, rfl⟩⟩

/-- A row of cells of immutable values that a call made: an immutable slice. -/
theorem row_imm (hi : Inv ρ S w) {w' : World} {t : TypeId} {sz n : Nat} {v : Value} {xs : List Value} {rows : List (List V)} (hw : Below w.heap.size w w') (hown : w'.ownsRow w.heap.size t sz v n xs) (hn : rows.length = n) (h0 : 0 < n) (hr : LR ρ S w sz rows xs) (him : ∀ r ∈ rows, V.allImm r = true) (b : Bool) :
    VR ρ S w' b (.sl sz rows) v := by
  have hx := ext_below (ρ := ρ) (S := S) hw
  obtain ⟨hl, h⟩ := hown
  rcases h with ⟨_, h⟩ | ⟨g, cap, cur, rfl, hb, hg, h1, h2, h3, h4⟩
  · omega
  · have hcell : ∀ (i : Nat) (r : List V), rows[i]? = some r → ∀ (j : Nat) (y : V), r[j]? = some y → ∃ u, cur[i * sz + j]? = some u ∧ VR ρ S w false y u ∧ u.oneCell' = true := by
      intro i r hir j y hj
      obtain ⟨u, a, b, c⟩ := hr.2 i r hir j y hj
      refine ⟨u, ?_, b, c⟩
      rw [← h4, List.getElem?_take] at a
      split at a
      · simpa using a
      · cases a
    refine .sl (fun i j => (cur[i * sz + j]?).getD Go.undef) ⟨(Array.getElem?_eq_some_iff.1 hg).1, fun id o c g' tot ho hc hr' he => ?_⟩ hn.symm h1 h2 hr.1 (fun i r hir j y hj => ?_) (fun i r hir j y hj => ?_) (fun i r hir j y hj => ?_)
    · have := hi.block ho hc hr'
      omega
    · obtain ⟨u, a, _⟩ := hcell i r hir j y hj
      rw [a]
      unfold World.cell?
      simp only [hg, Nat.zero_add]
      simpa using a
    · obtain ⟨u, a, b', _⟩ := hcell i r hir j y hj
      rw [a]
      exact (b'.ext hx).toImm (V.allImm_get (him r (List.mem_of_getElem? hir)) j y hj) true
    · obtain ⟨u, a, _, c⟩ := hcell i r hir j y hj
      rw [a]
      exact c
end
end Go.AL
