/- The reader: the rest of a line. -/
import Derived.Test.YtpblahljlbakdaaEdi9
namespace Go.Proofs.Ytpblahljlbakdaa
open Go Go.AL
set_option linter.unusedSimpArgs false

/-- Objects of a type stand. -/
def Pres (t : TypeId) (T T' : Store) : Prop := ∀ k w sz rows, T.obj? k w = some (t, sz, rows) → T'.obj? k w = some (t, sz, rows)
def PresB (B : Nat) (t : TypeId) (T T' : Store) : Prop := ∀ k w sz rows, k < B → T.obj? k w = some (t, sz, rows) → T'.obj? k w = some (t, sz, rows)
theorem Pres.b {B : Nat} {t : TypeId} {T T' : Store} (h : Pres t T T') : PresB B t T T' := fun k w sz rows _ ho => h k w sz rows ho
theorem Pres.trans {t : TypeId} {T T' T'' : Store} (h : Pres t T T') (h' : Pres t T' T'') : Pres t T T'' := fun k w sz rows ho => h' k w sz rows (h k w sz rows ho)
theorem PresB.trans {B : Nat} {t : TypeId} {T T' T'' : Store} (h : PresB B t T T') (h' : PresB B t T' T'') : PresB B t T T'' := fun k w sz rows hk ho => h' k w sz rows hk (h k w sz rows hk ho)
theorem Pres.push (t : TypeId) (T : Store) (o : AL.Obj) : Pres t T (T ++ [o]) := fun k w sz rows h => by rw [ob_low (obj_lt h)]; exact h
theorem obj_ne {T : Store} {k j w : Nat} {o : AL.Obj} (h : k ≠ j) : Store.obj? (T.set j o) k w = T.obj? k w := by
  simp only [Store.obj?]
  rw [List.getElem?_set_ne (Ne.symm h)]
theorem Pres.set {t t' : TypeId} {T : Store} {j v : Nat} {x : Nat × List (List V)} {o : AL.Obj} (h : T.obj? j v = some (t', x)) (ht : t ≠ t') : Pres t T (T.set j o) := fun k w sz rows ho => by
  rw [obj_ne]
  · exact ho
  · rintro rfl
    obtain ⟨sz0, rows0⟩ := x
    have h1 := obj_some h
    have h2 := obj_some ho
    rw [h1] at h2
    cases h2
    exact ht rfl
theorem PresB.set {B : Nat} {t : TypeId} {T : Store} {j : Nat} {o : AL.Obj} (h : B ≤ j) : PresB B t T (T.set j o) := fun k w sz rows hk ho => by
  rw [obj_ne (by omega)]
  exact ho

/-- An element that is finished; the one under way; the text under way. -/
def Fin (S T : Store) (B : Nat) (v : V) (e : List Txt) : Prop := ∃ j w, j < B ∧ v = .msl (S.length + (j + 2)) w 0 e.length ∧ T.obj? j w = some (9, 1, e.map cmR)
def CurE (S T : Store) (B : Nat) (c : V) (comps : List Txt) : Prop := (comps = [] ∧ c = .nilSl) ∨ ∃ j w, B ≤ j ∧ c = .msl (S.length + (j + 2)) w 0 comps.length ∧ T.obj? j w = some (9, 1, comps.map cmR)
def TxE (S T : Store) (tx : V) (text : Txt) : Prop := (text = [] ∧ tx = .nilSl) ∨ ∃ j w, tx = .msl (S.length + (j + 2)) w 0 text.length ∧ T.obj? j w = some (5, 1, byteRows text)
def Elm (S T : Store) (B : Nat) (cs : List V) (els : List (List Txt)) : Prop := cs.length = els.length ∧ ∀ (i : Nat) (v : V) (x : List Txt), cs[i]? = some v → els[i]? = some x → Fin S T B v x

theorem Fin.pres {S T T' : Store} {B : Nat} {v : V} {e : List Txt} (h : Fin S T B v e) (hp : PresB B 9 T T') : Fin S T' B v e := by
  obtain ⟨j, w, h1, h2, h3⟩ := h
  exact ⟨j, w, h1, h2, hp _ _ _ _ h1 h3⟩
theorem Fin.mono {S T : Store} {B B' : Nat} {v : V} {e : List Txt} (h : Fin S T B v e) (hb : B ≤ B') : Fin S T B' v e := by
  obtain ⟨j, w, h1, h2, h3⟩ := h
  exact ⟨j, w, by omega, h2, h3⟩
theorem Elm.pres {S T T' : Store} {B : Nat} {cs : List V} {els : List (List Txt)} (h : Elm S T B cs els) (hp : PresB B 9 T T') : Elm S T' B cs els := ⟨h.1, fun i v x hv hx => (h.2 i v x hv hx).pres hp⟩
theorem Elm.mono {S T : Store} {B B' : Nat} {cs : List V} {els : List (List Txt)} (h : Elm S T B cs els) (hb : B ≤ B') : Elm S T B' cs els := ⟨h.1, fun i v x hv hx => (h.2 i v x hv hx).mono hb⟩
theorem Elm.snoc {S T : Store} {B : Nat} {cs : List V} {els : List (List Txt)} {c : V} {e : List Txt} (h : Elm S T B cs els) (hc : Fin S T B c e) : Elm S T B (cs ++ [c]) (els ++ [e]) := by
  refine ⟨by simp [h.1], fun i v x hv hx => ?_⟩
  by_cases hi : i < cs.length
  · rw [List.getElem?_append_left hi] at hv
    rw [List.getElem?_append_left (by rw [← h.1]; exact hi)] at hx
    exact h.2 i v x hv hx
  · rw [List.getElem?_append_right (by omega)] at hv
    rw [List.getElem?_append_right (by rw [← h.1]; omega)] at hx
    have hlt := (List.getElem?_eq_some_iff.1 hv).1
    simp only [List.length_cons, List.length_nil] at hlt
    have : i = cs.length := by omega
    subst this
    rw [Nat.sub_self] at hv
    rw [h.1, Nat.sub_self] at hx
    simp at hv hx
    subst hv hx
    exact hc
theorem CurE.pres {S T T' : Store} {B : Nat} {c : V} {comps : List Txt} (h : CurE S T B c comps) (hp : Pres 9 T T') : CurE S T' B c comps := by
  rcases h with h | ⟨j, w, h1, h2, h3⟩
  · exact .inl h
  · exact .inr ⟨j, w, h1, h2, hp _ _ _ _ h3⟩
theorem TxE.pres {S T T' : Store} {tx : V} {text : Txt} (h : TxE S T tx text) (hp : Pres 5 T T') : TxE S T' tx text := by
  rcases h with h | ⟨j, w, h2, h3⟩
  · exact .inl h
  · exact .inr ⟨j, w, h2, hp _ _ _ _ h3⟩

def oneR (v : V) : List V := [v]
/-- The state within a line: the elements' cell and the text's. -/
def Mid (S T : Store) (els : List (List Txt)) (comps : List Txt) (text : Txt) (e tx : V) : Prop :=
  ∃ j w cs c B, e = .msl (S.length + (j + 2)) w 0 (els.length + 1) ∧ T.obj? j w = some (40, 1, cs.map oneR ++ [[c]]) ∧ Elm S T B cs els ∧ B ≤ T.length ∧ CurE S T B c comps ∧ TxE S T tx text
def Sta (S T : Store) (els : List (List Txt)) (cur : Option (List Txt × Txt)) (e tx : V) : Prop :=
  match cur with
  | none => e = .nilSl ∧ tx = .nilSl ∧ els = []
  | some (comps, text) => Mid S T els comps text e tx

theorem fgt_two {S T : Store} {b' o' o1 : AL.Obj} (hn : ∀ (id ver : Nat) (e : TypeId) (sz : Nat) (rows : List (List V)), S[id]? = some ⟨ver, some (.arr e sz rows)⟩ → ∀ r ∈ rows, r.length = sz ∧ V.allUnder (S.length + 2) r = true)
    (hb : ∀ (e : TypeId) (sz : Nat) (rows : List (List V)), b'.st = some (.arr e sz rows) → ∀ r ∈ rows, r.length = sz ∧ V.allUnder (S.length + 2) r = true) (hv : o'.ver = o1.ver)
    (ho : ∀ (t : TypeId) (sz : Nat) (rows1 : List (List V)), o1.st = some (.arr t sz rows1) → ∃ rows, o'.st = some (.arr t sz rows) ∧ rows1.length = rows.length ∧ (∀ (i : Nat) (r1 : List V), rows1[i]? = some r1 → r1.length = sz) ∧
      ∀ (i : Nat) (r1 : List V), rows1[i]? = some r1 → ∀ (j : Nat) (v1 : V), r1[j]? = some v1 → ∀ (r : List V) (x : V), rows[i]? = some r → r[j]? = some x → Frz (S ++ b' :: o' :: T) (S ++ [b', o1]) x v1) :
    Fgt (S ++ b' :: o' :: T) (S ++ [b', o1]) where
  len := by simp
  obj id o2 h2 := by
    have hl : (S ++ [b', o1]).length = S.length + 2 := by simp
    have same : ∀ (rows : List (List V)) (sz : Nat), (∀ r ∈ rows, r.length = sz ∧ V.allUnder (S.length + 2) r = true) → ∀ (i : Nat) (r1 : List V), rows[i]? = some r1 → ∀ (j : Nat) (v1 : V), r1[j]? = some v1 → ∀ (r : List V) (x : V), rows[i]? = some r → r[j]? = some x → Frz (S ++ b' :: o' :: T) (S ++ [b', o1]) x v1 := by
      intro rows sz h i r1 hi j v1 hj r x hi' hj'
      rw [hi] at hi'
      cases hi'
      rw [hj] at hj'
      cases hj'
      refine .same (.inl ?_)
      rw [hl]
      exact V.allUnder_get (h r1 (List.mem_of_getElem? hi)).2 j v1 hj
    by_cases h0 : id < S.length
    · rw [List.getElem?_append_left h0] at h2
      refine ⟨o2, by rw [List.getElem?_append_left h0]; exact h2, rfl, fun t sz rows1 hst => ⟨rows1, hst, rfl, ?_, ?_⟩⟩
      · obtain ⟨ver, st⟩ := o2
        simp only at hst
        subst hst
        exact fun i r1 hi => (hn id ver t sz rows1 h2 r1 (List.mem_of_getElem? hi)).1
      · obtain ⟨ver, st⟩ := o2
        simp only at hst
        subst hst
        exact same rows1 sz (hn id ver t sz rows1 h2)
    · obtain ⟨k, rfl⟩ : ∃ k, id = S.length + k := ⟨id - S.length, by omega⟩
      rw [List.getElem?_append_right (by omega), Nat.add_sub_cancel_left] at h2
      match k, h2 with
      | 0, h2 =>
        simp at h2
        subst h2
        exact ⟨b', by rw [List.getElem?_append_right (by omega), Nat.add_sub_cancel_left]; rfl, rfl, fun t sz rows1 hst => ⟨rows1, hst, rfl, fun i r1 hi => (hb t sz rows1 hst r1 (List.mem_of_getElem? hi)).1, same rows1 sz (hb t sz rows1 hst)⟩⟩
      | 1, h2 =>
        simp at h2
        subst h2
        exact ⟨o', by rw [List.getElem?_append_right (by omega), Nat.add_sub_cancel_left]; rfl, hv, ho⟩
      | k + 2, h2 => simp at h2
end Go.Proofs.Ytpblahljlbakdaa
