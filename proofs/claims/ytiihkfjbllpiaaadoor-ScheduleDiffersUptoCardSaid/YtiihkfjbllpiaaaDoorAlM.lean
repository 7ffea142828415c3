/- Maps whose keys are numbers or texts: what is found after an update. -/
import Derived.Test.YtiihkfjbllpiaaaDoorAlJ
namespace Go.AL
set_option linter.unusedSectionVars false
variable [Mode]
set_option linter.unusedSimpArgs false
set_option linter.unusedVariables false

theorem cells_mapv {id ver : Nat} : (V.mapv id ver).cells? = some [.mapv id ver] := rfl
theorem ok_mapv {id ver : Nat} : (V.mapv id ver).cellOk = true := rfl
theorem cells_nilMap : V.nilMap.cells? = some [.nilMap] := rfl
theorem ok_nilMap : V.nilMap.cellOk = true := rfl

theorem eqKV_int {k : IntKind} {a b : Int} : eqKV (.int k a) (.int k b) = decide (a = b) := by simp [eqKV, eqK1]
theorem eqKV_str {a b : List UInt8} : eqKV (.str a) (.str b) = decide (a = b) := by simp [eqKV, eqK1]

/-- The keys are of a kind, the values are pure data. -/
def KeysK {α : Type} (K : α → V) (rows : List (V × V)) : Prop := ∀ p ∈ rows, (∃ a, p.1 = K a) ∧ p.1.isImm = true ∧ p.2.isImm = true

section
variable {α : Type} {K : α → V} {rows : List (V × V)}
theorem KeysK.nil : KeysK K [] := fun p h => by cases h

theorem putV_mem {k v : V} : ∀ {rows : List (V × V)} {p : V × V}, p ∈ putV k v rows → p = (k, v) ∨ p ∈ rows
  | [], p, h => by simp only [putV, List.mem_singleton] at h; exact .inl h
  | q :: rows, p, h => by
    rw [putV] at h
    split at h
    · rcases List.mem_cons.1 h with h | h
      · exact .inl h
      · exact .inr (List.mem_cons_of_mem _ h)
    · rcases List.mem_cons.1 h with h | h
      · exact .inr (by rw [h]; exact List.mem_cons_self ..)
      · exact (putV_mem h).imp id (List.mem_cons_of_mem _)

theorem KeysK.put (h : KeysK K rows) {a : α} {v : V} (hk : (K a).isImm = true) (hv : v.isImm = true) : KeysK K (putV (K a) v rows) := fun p hp => by
  rcases putV_mem hp with rfl | hp
  · exact ⟨⟨a, rfl⟩, hk, hv⟩
  · exact h p hp

theorem find_put [DecidableEq α] (hK : ∀ a b : α, eqKV (K a) (K b) = decide (a = b)) {a b : α} {v : V} : ∀ {rows : List (V × V)}, KeysK K rows → findV (K b) (putV (K a) v rows) = if b = a then some v else findV (K b) rows
  | [], _ => by simp only [putV, findV, hK, decide_eq_true_eq]
  | q :: rows, h => by
    obtain ⟨⟨c, hc⟩, _⟩ := h q (List.mem_cons_self ..)
    have ih := find_put hK (a := a) (b := b) (v := v) (rows := rows) fun p hp => h p (List.mem_cons_of_mem _ hp)
    obtain ⟨q1, q2⟩ := q
    simp only at hc
    subst hc
    by_cases hac : a = c
    · subst hac
      by_cases hb : b = a
      · simp [putV, findV, hK, hb]
      · simp [putV, findV, hK, hb]
    · by_cases hb : b = c
      · subst hb
        have : ¬ b = a := fun h => hac h.symm
        simp [putV, findV, hK, hac, this]
      · simp [putV, findV, hK, hac, hb, ih]
end

/-- A map of pure data is as it was after forgetting. -/
theorem objF_map {α : Type} {K : α → V} {S S1 : Store} {o : Obj} {kd : KD} {rows : List (V × V)} {x : MX} (ho : o.st = some (.mp ⟨kd, rows, x⟩)) (hx : x.isIt = false := by rfl) (h : KeysK K rows) (hk : ∀ a, isKV kd (K a) = true) : objF S S1 o (some (.mp ⟨kd, rows, x⟩)) :=
  ⟨_, ho, .same fun of p hp => (by simp only at hp; rw [hp] at hx; cases hx), rfl, rfl, fun p hp => by obtain ⟨⟨a, ha⟩, _⟩ := h p hp; rw [ha]; exact hk a, fun i p1 p h1 h2 => by
    rw [h1] at h2
    cases h2
    obtain ⟨_, i1, i2⟩ := h p1 (List.mem_of_getElem? h1)
    exact ⟨.imm i1, .imm i2⟩⟩

/-! ### Ranging over a map of entries told by a function -/
theorem perm_map {α β : Type} {f : α → β} : ∀ {l : List β} {r : List β}, l.Perm r → ∀ (s : List α), l = s.map f → ∃ m, s.Perm m ∧ r = m.map f := by
  intro l r h
  induction h with
  | nil => intro s hs; exact ⟨s, .refl _, hs⟩
  | cons x _ ih =>
    intro s hs
    cases s with
    | nil => cases hs
    | cons y s =>
      simp only [List.map_cons, List.cons.injEq] at hs
      obtain ⟨m, h1, h2⟩ := ih s hs.2
      exact ⟨y :: m, h1.cons y, by rw [hs.1, h2]; rfl⟩
  | swap x y l =>
    intro s hs
    match s, hs with
    | a :: b :: s, hs =>
      simp only [List.map_cons, List.cons.injEq] at hs
      exact ⟨b :: a :: s, List.Perm.swap .., by simp [hs]⟩
  | trans _ _ ih1 ih2 =>
    intro s hs
    obtain ⟨m, h1, h2⟩ := ih1 s hs
    obtain ⟨n, h3, h4⟩ := ih2 m h2
    exact ⟨n, h1.trans h3, h4⟩

theorem next_ents {α : Type} {f : α → V × V} {it iver id ver : Nat} {kd kd' : KD} {rows : List (V × V)} {rest : List α} {S : Store} {K : V → Store → Prop}
    (h0 : rest = [] → K (.tup [.bool false]) (S.set id ⟨ver, some (.mp ⟨kd', rows, .free⟩)⟩))
    (h1 : ∀ (x : α) (rest' : List α), rest.Perm (x :: rest') → K (.tup [.bool true, (f x).1, (f x).2]) (S.set it ⟨iver, some (.mp ⟨kd, rest'.map f, .iter (some (id, ver)) (some (f x))⟩)⟩)) :
    nextO2 (some (kd', rows, .held it)) it iver id ver kd (rest.map f) S K := by
  rw [nextO2_some]
  refine ⟨fun h => h0 (List.map_eq_nil_iff.1 h), fun p r hp => ?_⟩
  obtain ⟨m, hm, hr⟩ := perm_map hp rest rfl
  cases m with
  | nil => cases hr
  | cons x m =>
    simp only [List.map_cons, List.cons.injEq] at hr
    obtain ⟨rfl, rfl⟩ := hr
    exact h1 x m hm

/-- An iterator's last entry is forgotten; it still holds pure data. -/
theorem objF_it {α : Type} {K : α → V} {S S1 : Store} {o : Obj} {kd : KD} {rows : List (V × V)} {of : Option (Nat × Nat)} {c : Option (V × V)} (ho : o.st = some (.mp ⟨kd, rows, .iter of c⟩)) (h : KeysK K rows) (hk : ∀ a, isKV kd (K a) = true) : objF S S1 o (some (.mp ⟨kd, rows, .iter of none⟩)) :=
  ⟨_, ho, ⟨rfl, fun p hp => by cases hp⟩, rfl, rfl, fun p hp => by obtain ⟨⟨a, ha⟩, _⟩ := h p hp; rw [ha]; exact hk a, fun i p1 p h1 h2 => by
    rw [h1] at h2
    cases h2
    obtain ⟨_, i1, i2⟩ := h p1 (List.mem_of_getElem? h1)
    exact ⟨.imm i1, .imm i2⟩⟩
theorem fgtL_nil {S S1 T : Store} : FgtL S S1 T [] := by cases T <;> trivial

/-- An entry that is opened and then written: the map's update. -/
theorem modify_put {k u : V} (hk : eqKV k k = true) : ∀ (rows : List (V × V)) (j : Nat) (p : V × V), (putV k u rows)[j]? = some p → eqKV k p.1 = true → (∀ (i : Nat) (q : V × V), i < j → (putV k u rows)[i]? = some q → eqKV k q.1 = false) → ∀ v, (putV k u rows).modify j (fun p => (p.1, v)) = putV k v rows
  | [], j, p, h1, h2, h3, v => by
    cases j with
    | zero => rfl
    | succ j => simp [putV] at h1
  | q :: r, j, p, h1, h2, h3, v => by
    rw [putV] at h1 h3 ⊢
    rw [putV]
    cases hq : eqKV k q.1 with
    | true =>
      rw [hq] at h1 h3
      simp only [if_true] at h1 h3 ⊢
      cases j with
      | zero => rfl
      | succ j => have := h3 0 (k, u) (by omega) rfl; rw [hk] at this; cases this
    | false =>
      rw [hq] at h1 h3
      simp only [Bool.false_eq_true, if_false] at h1 h3 ⊢
      cases j with
      | zero => simp at h1; subst h1; rw [hq] at h2; cases h2
      | succ j =>
        have ih := modify_put hk r j p (by simpa using h1) h2 (fun i q' hi hq' => h3 (i + 1) q' (by omega) (by simpa using hq')) v
        rw [List.modify_succ_cons, ih]
theorem ent_opens {kd : KD} {rows : List (V × V)} {id ver : Nat} {zero k : V} {S : Store} {K : V → Store → Prop} (hkv : isKV kd k = true) (hk : eqKV k k = true)
    (h : ∀ (j n : Nat), (∀ v, (putV k ((findV k rows).getD zero) rows).modify j (fun p => (p.1, v)) = putV k v rows) → K (.tup [(findV k rows).getD zero, .int .i64 n]) (S.set id ⟨ver, some (.mp ⟨kd, putV k ((findV k rows).getD zero) rows, .opened j n⟩)⟩)) : mEntO (some (kd, rows, .free)) id ver kd zero k S K := by
  unfold mEntO
  exact ⟨rfl, rfl, hkv, fun j n p h1 h2 h3 => h j n (modify_put hk rows j p h1 h2 h3)⟩
end Go.AL
