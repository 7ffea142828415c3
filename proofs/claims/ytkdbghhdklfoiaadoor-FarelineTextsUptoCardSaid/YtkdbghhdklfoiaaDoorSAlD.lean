/- A region that draws its order: the order of the text serves every order. -/
import Derived.Test.YtkdbghhdklfoiaaDoorSAl6
namespace Go.AL
set_option linter.unusedSectionVars false
variable [Mode]
set_option linter.unusedSimpArgs false
set_option linter.unusedVariables false
def putf (e : Nat → V) : Option Nat → V → Nat → V
  | some d, v => fun t => if t = d then v else e t
  | none, _ => e
theorem putf_env {E : Env} {d : Option Nat} {v : V} : (E.put d v).get = putf E.get d v := by
  cases d with
  | none => rfl
  | some d => funext t; simp [Env.put, Env.get, putf]
theorem putf_comm (e : Nat → V) {x y : Option Nat} (v u : V) (h : ∀ d, x = some d → y ≠ some d) : putf (putf e x v) y u = putf (putf e y u) x v := by
  cases x with
  | none => rfl
  | some d =>
    cases y with
    | none => rfl
    | some c =>
      have hne : d ≠ c := fun hh => h d rfl (by rw [hh])
      funext t
      simp only [putf]
      by_cases h1 : t = c
      · subst h1; rw [if_pos rfl, if_neg (Ne.symm hne), if_pos rfl]
      · rw [if_neg h1]
        by_cases h2 : t = d
        · rw [if_pos h2, if_pos h2]
        · rw [if_neg h2, if_neg h2, if_neg h1]
theorem ev_congr {e e' : Nat → V} {x : Opd} (h : ∀ t ∈ x.looks, e t = e' t) : ev e x = ev e' x := by
  cases x with
  | t n => exact h n (by simp [Opd.looks])
  | c v => rfl
theorem evs_congr {e e' : Nat → V} : ∀ {l : List Opd}, (∀ t ∈ l.flatMap Opd.looks, e t = e' t) → evs e l = evs e' l
  | [], _ => rfl
  | x :: r, h => by
    have h1 := ev_congr (x := x) (e := e) (e' := e') (fun t ht => h t (by simp [ht]))
    have h2 := evs_congr (l := r) (e := e) (e' := e') (fun t ht => h t (by rw [List.flatMap_cons]; exact List.mem_append_right _ ht))
    simp only [evs, List.map_cons] at h2 ⊢
    rw [h1, h2]
theorem bound_congr {e e' : Nat → V} {d : Nat} {x : Option Opd} (h : ∀ t ∈ oLooks x, e t = e' t) : bound e d x = bound e' d x := by
  cases x with
  | none => rfl
  | some x => simp only [bound, ev_congr (x := x) h]
theorem fillV_congr {e e' : Nat → V} : ∀ {l : List (Nat × Nat × Opd)} {cells : List V}, (∀ t ∈ l.flatMap (fun p => p.2.2.looks), e t = e' t) → fillV e cells l = fillV e' cells l
  | [], _, _ => rfl
  | (a, b, x) :: r, cells, h => by
    have h1 := ev_congr (x := x) (e := e) (e' := e') (fun t ht => h t (by simp [ht]))
    have h2 := fun cs => fillV_congr (l := r) (cells := cs) (e := e) (e' := e') (fun t ht => h t (by rw [List.flatMap_cons]; exact List.mem_append_right _ ht))
    simp only [fillV, h1, h2]
theorem fillR_congr {e e' : Nat → V} {sz : Nat} : ∀ {l : List (Nat × Opd)} {rows : List (List V)}, (∀ t ∈ l.flatMap (fun p => p.2.looks), e t = e' t) → fillR e sz rows l = fillR e' sz rows l
  | [], _, _ => rfl
  | (a, x) :: r, rows, h => by
    have h1 := ev_congr (x := x) (e := e) (e' := e') (fun t ht => h t (by simp [ht]))
    have h2 := fun cs => fillR_congr (sz := sz) (l := r) (rows := cs) (e := e) (e' := e') (fun t ht => h t (by rw [List.flatMap_cons]; exact List.mem_append_right _ ht))
    simp only [fillR, h1, h2]
theorem opV_congr {e e' : Nat → V} {S : Store} {op : AOp} (h : ∀ t ∈ op.looks, e t = e' t) : opV e S op = opV e' S op := by
  cases op <;> simp only [AOp.looks, List.mem_append, or_imp, forall_and] at h <;> simp only [opV]
  case mv x => rw [ev_congr h]
  case pick a b c => rw [ev_congr h.1.1, ev_congr h.1.2, ev_congr h.2]
  case bin op x y => rw [ev_congr h.1, ev_congr h.2]
  case eqb n x y => rw [ev_congr h.1, ev_congr h.2]
  case idxS x y => rw [ev_congr h.1, ev_congr h.2]
  case idxA n x y => rw [ev_congr h.1, ev_congr h.2]
  case idxR m n x y => rw [ev_congr h.1, ev_congr h.2]
  case idxV n x y => rw [ev_congr h.1, ev_congr h.2]
  case minmax n x y => rw [ev_congr h.1, ev_congr h.2]
  case build z ps => rw [fillV_congr h]
  case bsl sz z n ps => rw [fillR_congr h]
  case mkfn f a b => rw [evs_congr h.1, evs_congr h.2]
  case slS x lo hi => rw [ev_congr h.1.1]; simp only [bound_congr h.1.2, bound_congr h.2]
  case slA n x lo hi => rw [ev_congr h.1.1]; simp only [bound_congr h.1.2, bound_congr h.2]
  case xo op l => rw [evs_congr h]
  all_goals rw [ev_congr h]
section
variable {P : Program} {S : Store}
def stmV (P : Program) (s : AStm) (e : Nat → V) (S : Store) (v : V) : Prop :=
  match s with
  | .p op => opV e S op = some v
  | .call f args => CallA P f (evs e args) S (fun r S' => r = v ∧ S' = S)
  | .callv x args => match ev e x with
    | .func f first cap => CallA P f (first ++ evs e args ++ cap) S (fun r S' => r = v ∧ S' = S)
    | _ => False
  | _ => False
theorem stmV_congr {s : AStm} {e e' : Nat → V} {v : V} (h : ∀ t ∈ s.looks, e t = e' t) (hv : stmV P s e S v) : stmV P s e' S v := by
  cases s with
  | p op => simp only [stmV] at *; rw [← opV_congr h]; exact hv
  | call f args => simp only [stmV] at *; rw [← evs_congr h]; exact hv
  | callv x args =>
    simp only [AStm.looks, List.mem_append, or_imp, forall_and] at h
    simp only [stmV] at *
    rw [← ev_congr h.1, ← evs_congr h.2]
    exact hv
  | _ => exact hv.elim
theorem stmV_of_stmD {s : AStm} {e : Nat → V} {K : V → Prop} (h : stmD P s e S K) : ∃ v, stmV P s e S v ∧ K v := by
  cases s with
  | p op =>
    simp only [stmD] at h
    split at h
    · rename_i v hv; exact ⟨v, hv, h⟩
    · cases h
  | call f args => exact h
  | callv x args =>
    simp only [stmD] at h
    split at h
    · rename_i f first cap hf
      obtain ⟨v, h1, h2⟩ := h
      exact ⟨v, by simp only [stmV, hf]; exact h1, h2⟩
    · cases h
  | _ => exact h.elim
theorem stmA_of_stmV {s : AStm} {e : Nat → V} {v : V} (h : stmV P s e S v) : stmA P s e S (fun r S' => r = v ∧ S' = S) := by
  cases s with
  | p op => simp only [stmV] at h; simp only [stmA, h, pureK, and_self]
  | call f args => exact h
  | callv x args =>
    simp only [stmV] at h
    simp only [stmA]
    split at h
    · rename_i f first cap hf; rw [hf]; exact h
    · cases h
  | _ => exact h.elim
def wantedV (g : Option (Nat × Bool)) (e : Nat → V) : Option Bool :=
  match g with
  | none => some true
  | some (t, want) => match e t with
    | .bool x => some (x == want)
    | .skipped => some false
    | _ => none
def DV (P : Program) (it : AItem) (e : Nat → V) (S : Store) (v : V) : Prop :=
  (wantedV it.guard e = some true ∧ stmV P it.stm e S v) ∨ (wantedV it.guard e = some false ∧ v = .skipped)
theorem DV.congr {it : AItem} {e e' : Nat → V} {v : V} (h : ∀ t ∈ it.looks, e t = e' t) (hv : DV P it e S v) : DV P it e' S v := by
  obtain ⟨d, g, s⟩ := it
  have hs : ∀ t ∈ s.looks, e t = e' t := fun t ht => h t (by simp [AItem.looks, ht])
  have hw : wantedV g e = wantedV g e' := by
    cases g with
    | none => rfl
    | some p => obtain ⟨t, want⟩ := p; simp only [wantedV]; rw [h t (by simp [AItem.looks])]
  rcases hv with ⟨h1, h2⟩ | ⟨h1, h2⟩
  · exact .inl ⟨by rw [← hw]; exact h1, stmV_congr hs h2⟩
  · exact .inr ⟨by rw [← hw]; exact h1, h2⟩
theorem apart_spec {x y : AItem} (h : x.apart y = true) : (∀ d, x.dst = some d → d ∉ y.looks) ∧ (∀ d, x.dst = some d → y.dst ≠ some d) ∧ (∀ d, y.dst = some d → d ∉ x.looks) := by
  refine ⟨fun d hd => ?_, fun d hd => ?_, fun d hd => ?_⟩ <;> simp [AItem.apart, hd] at h
  · exact h.1.1
  · exact h.1.2
  · exact h.2
theorem DV.put {x y : AItem} {e : Nat → V} {u v : V} (h : ∀ d, y.dst = some d → d ∉ x.looks) : DV P x (putf e y.dst u) S v ↔ DV P x e S v := by
  have hc : ∀ t ∈ x.looks, putf e y.dst u t = e t := by
    intro t ht
    cases hd : y.dst with
    | none => rfl
    | some d =>
      simp only [putf]
      rw [if_neg]
      rintro rfl
      exact h t hd ht
  exact ⟨DV.congr hc, DV.congr fun t ht => (hc t ht).symm⟩
theorem stmA_congr {s : AStm} {e e' : Nat → V} {K : V → Store → Prop} (h : ∀ t ∈ s.looks, e t = e' t) (hv : stmA P s e S K) : stmA P s e' S K := by
  cases s <;> simp only [AStm.looks, List.mem_append, or_imp, forall_and] at h <;> simp only [stmA] at *
  case p op => rw [← opV_congr h]; exact hv
  case call f args => rw [← evs_congr h]; exact hv
  case callv x args => rw [← ev_congr h.1, ← evs_congr h.2]; exact hv
  case boxO t x => rw [← ev_congr h]; exact hv
  case newO t z => exact hv
  case bslO q sz z n ps => rw [← fillR_congr h]; exact hv
  case st n x v => rw [← ev_congr h.1, ← ev_congr h.2]; exact hv
  case app q sz x y => rw [← ev_congr h.1, ← ev_congr h.2]; exact hv
  case mksl q sz z x y => rw [← ev_congr h.1, ← ev_congr h.2]; exact hv
  case nilD neg x => rw [← ev_congr h]; exact hv
  case appS q x y => rw [← ev_congr h.1, ← ev_congr h.2]; exact hv
  case xs op l => rw [← evs_congr h]; exact hv
theorem stmA_mono {s : AStm} {e : Nat → V} {K K' : V → Store → Prop} (hk : ∀ v S', K v S' → K' v S') (hv : stmA P s e S K) : stmA P s e S K' := by
  cases s <;> simp only [stmA] at *
  case p op =>
    unfold pureK at *
    split at hv
    · exact hk _ _ hv
    · cases hv
  case call f args => exact hv.mono hk
  case callv x args =>
    split at hv
    · exact hv.mono hk
    · cases hv
  case boxO t x =>
    split at hv
    · exact hk _ _ hv
    · cases hv
  case newO t z => exact hk _ _ hv
  case bslO q sz z n ps =>
    split at hv
    · exact hk _ _ hv
    · cases hv
  case st n x v =>
    unfold stK at *
    repeat' (split at hv)
    all_goals first | exact hv.elim | exact ⟨hv.1, hv.2.1, hk _ _ hv.2.2⟩
  case app q sz x y =>
    unfold appK at *
    repeat' (split at hv)
    all_goals first | exact hv.elim | exact ⟨hv.1, hv.2.1, hk _ _ hv.2.2⟩ | exact ⟨hv.1, hv.2.1, hv.2.2.1, hv.2.2.2.1, hv.2.2.2.2.1, hk _ _ hv.2.2.2.2.2⟩
  case mksl q sz z x y =>
    unfold mkK at *
    repeat' (split at hv)
    all_goals first | exact hv.elim | exact ⟨hv.1, hv.2.1, hv.2.2.1, hk _ _ hv.2.2.2⟩
  case appS q x y =>
    unfold appK at *
    repeat' (split at hv)
    all_goals first | exact hv.elim | exact ⟨hv.1, hv.2.1, hk _ _ hv.2.2⟩ | exact ⟨hv.1, hv.2.1, hv.2.2.1, hv.2.2.2.1, hv.2.2.2.2.1, hk _ _ hv.2.2.2.2.2⟩
  case xs op l =>
    unfold xstmA at *
    split at hv
    · unfold uStrK at *
      split at hv
      · exact ⟨hv.1, hk _ _ hv.2⟩
      · split at hv
        · obtain ⟨h1, h2, h3, h4, bs, h5, h6, h7, h8⟩ := hv
          exact ⟨h1, h2, h3, h4, bs, h5, h6, h7, hk _ _ h8⟩
        · exact hv.elim
      · exact hv.elim
    · exact hk _ _ hv
    · exact hk _ _ hv
    · unfold muK at *
      split at hv
      · split at hv
        · exact ⟨hv.1, hv.2.1, hv.2.2.1, hk _ _ hv.2.2.2⟩
        · exact hv.elim
      · exact hv.elim
    · unfold muK at *
      split at hv
      · split at hv
        · exact ⟨hv.1, hv.2.1, hv.2.2.1, hk _ _ hv.2.2.2⟩
        · exact hv.elim
      · exact hv.elim
    · unfold mclrK at *
      split at hv
      · split at hv
        · exact ⟨hv.1, hk _ _ hv.2⟩
        · exact hv.elim
      · exact hv.elim
    · unfold clipK at *
      split at hv
      · exact ⟨hv.1, hv.2.1, hk _ _ hv.2.2⟩
      · split at hv
        · exact ⟨hv.1, hv.2.1, hv.2.2.1, hv.2.2.2.1, hk _ _ hv.2.2.2.2⟩
        · exact hv.elim
      · exact hv.elim
    · unfold mEntK at *
      split at hv
      · split at hv
        · exact ⟨hv.1, hv.2.1, hv.2.2.1, fun j n p h1 h2 h3 => hk _ _ (hv.2.2.2 j n p h1 h2 h3)⟩
        · exact hv.elim
      · exact hv.elim
    · unfold mStoK at *
      split at hv
      · split at hv
        · exact ⟨hv.1, hk _ _ hv.2⟩
        · exact hv.elim
      · exact hv.elim
    · unfold rangeK at *
      split at hv
      · exact hk _ _ hv
      · split at hv
        · exact ⟨hv.1, hk _ _ hv.2⟩
        · exact hv.elim
      · exact hv.elim
    · unfold nextK at *
      split at hv
      · split at hv
        · exact hk _ _ hv
        · split at hv
          · exact ⟨hv.1, fun h => hk _ _ (hv.2.1 h), fun p r h => hk _ _ (hv.2.2 p r h)⟩
          · exact hv.elim
        · exact hv.elim
      · exact hv.elim
    · exact hv.elim
  case nilD neg x =>
    unfold nilDK at *
    split at hv
    · exact ⟨hk _ _ hv.1, hk _ _ hv.2⟩
    · exact ⟨hv.1, hk _ _ hv.2.1, hk _ _ hv.2.2⟩
    · split at hv
      · exact hk _ _ hv
      · exact hv.elim
theorem opV_free {op : AOp} (h : op.free = true) (e : Nat → V) (S S' : Store) : opV e S op = opV e S' op := by
  cases op <;> first | rfl | (simp [AOp.free] at h; done)
theorem stable_all {s : AStm} {e : Nat → V} {v : V} (h : stmV P s e S v) (hs : stableA P s e v) (S' : Store) : stmV P s e S' v := by
  cases s with
  | p op =>
    simp only [stmV, stableA] at *
    rcases hs with hs | hs
    · rw [← opV_free hs e S S']; exact h
    · exact hs S'
  | call f args => exact hs S'
  | callv x args =>
    simp only [stmV, stableA] at *
    split at hs
    · rename_i f first cap hf; rw [hf]; exact hs S'
    · cases hs
  | _ => exact h.elim
theorem obj_grow {S T : Store} {id ver : Nat} {r : TypeId × Nat × List (List V)} (h : S.obj? id ver = some r) : Store.obj? (S ++ T) id ver = some r := by
  have hlt : id < S.length := by
    rcases Nat.lt_or_ge id S.length with h1 | h1
    · exact h1
    · unfold Store.obj? at h
      rw [List.getElem?_eq_none_iff.2 h1] at h
      cases h
  unfold Store.obj? at h ⊢
  rw [List.getElem?_append_left hlt]
  exact h
theorem mp_grow {S T : Store} {id ver : Nat} {r : KD × List (V × V) × MX} (h : S.mp? id ver = some r) : Store.mp? (S ++ T) id ver = some r := by
  have hlt : id < S.length := by
    rcases Nat.lt_or_ge id S.length with h1 | h1
    · exact h1
    · unfold Store.mp? at h
      rw [List.getElem?_eq_none_iff.2 h1] at h
      cases h
  unfold Store.mp? at h ⊢
  rw [List.getElem?_append_left hlt]
  exact h
theorem nil_grow {S T : Store} {k : Nat} {v : V} {b : Bool} (h : nilV S k v = some b) : nilV (S ++ T) k v = some b := by
  unfold nilV at h ⊢
  split at h <;> (try (split <;> simp_all; done)) <;> (try exact h)
  · rename_i id ver _ len
    cases hs : S.obj? id ver with
    | none => simp [hs] at h
    | some r => simpa [hs, obj_grow hs] using h
  · rename_i id ver _ _
    cases hs : S.obj? id ver with
    | none => simp [hs] at h
    | some r => simpa [hs, obj_grow hs] using h
  · rename_i id ver
    cases hs : S.mp? id ver with
    | none => simp [hs] at h
    | some r => simpa [hs, mp_grow hs] using h
theorem xop_grow {S T : Store} {op : XOp} {l : List V} {v : V} (h : xopV op l S = some v) : xopV op l (S ++ T) = some v := by
  unfold xopV at h ⊢
  split at h
  · unfold eqPV at h ⊢
    split at h
    · rename_i id ver _ _ id' ver' _ _
      cases hs : S.obj? id ver with
      | none => simp [hs] at h
      | some r =>
        cases hs' : S.obj? id' ver' with
        | none =>
          simp [hs, hs'] at h
          rw [if_pos (by rw [obj_grow hs]; exact ⟨h.1.1, h.1.2.1, h.1.2.2.1, h.1.2.2.2, rfl⟩), h.2]
        | some r' => simpa [hs, obj_grow hs, hs', obj_grow hs'] using h
    · cases h
  · unfold toUV at h ⊢
    split at h
    · rename_i id ver _ _
      cases hs : S.obj? id ver with
      | none => simp [hs] at h
      | some r => simpa [hs, obj_grow hs] using h
    · cases h
  · unfold frUV at h ⊢
    split at h
    · rename_i id ver _ _
      cases hs : S.obj? id ver with
      | none => simp [hs] at h
      | some r => simpa [hs, obj_grow hs] using h
    · cases h
  · unfold sdatV at h ⊢
    split at h
    · exact h
    · rename_i id ver _ _
      cases hs : S.obj? id ver with
      | none => simp [hs] at h
      | some r => simpa [hs, obj_grow hs] using h
    · cases h
  · unfold lkV at h ⊢
    split at h
    · exact h
    · rename_i id ver
      cases hs : S.mp? id ver with
      | none => simp [hs, lkO] at h
      | some r => rw [hs] at h; simpa [mp_grow hs] using h
    · cases h
  · unfold lenMV at h ⊢
    split at h
    · exact h
    · rename_i id ver
      cases hs : S.mp? id ver with
      | none => simp [hs, lenMO] at h
      | some r => rw [hs] at h; simpa [mp_grow hs] using h
    · cases h
  · exact h
  · unfold sl3V at h ⊢
    split at h
    · exact h
    · exact h
    · rename_i id ver _ _ _ _ _ _
      cases hs : S.obj? id ver with
      | none => simp [hs] at h
      | some r => simpa [hs, obj_grow hs] using h
    · cases h
  · unfold entV at h ⊢
    split at h
    · rename_i id ver
      cases hs : S.mp? id ver with
      | none => simp [hs, entO] at h
      | some r =>
        rw [hs] at h
        simp only [mp_grow hs]
        unfold entO at h ⊢
        split at h
        · rename_i i2 v2 p _
          cases hs2 : S.mp? i2 v2 with
          | none => simp [hs2, entO2] at h
          | some r2 => rw [hs2] at h; simpa [mp_grow hs2] using h
        · cases h
    · cases h
  · exact h
  · cases h
theorem opV_grow {e : Nat → V} {S T : Store} {op : AOp} {v : V} (h : opV e S op = some v) : opV e (S ++ T) op = some v := by
  cases op
  case isNil k neg x =>
    simp only [opV] at h ⊢
    split at h
    · rename_i b hb
      rw [nil_grow hb]
      exact h
    · cases h
  case xo op l => simp only [opV] at h ⊢; exact xop_grow h
  case idxA sz x i =>
    simp only [opV] at h ⊢
    split at h
    · rename_i h1 h2; (try rw [h1, h2]); exact h
    · rename_i id ver _ _ _ _ h1 h2
      (try rw [h1, h2])
      cases hs : S.obj? id ver with
      | none => simp [hs] at h
      | some r => simpa [hs, obj_grow hs] using h
    · cases h
  case idxR m sz x i =>
    simp only [opV] at h ⊢
    split at h
    · rename_i h1 h2; (try rw [h1, h2]); exact h
    · rename_i id ver _ _ _ _ h1 h2
      (try rw [h1, h2])
      cases hs : S.obj? id ver with
      | none => simp [hs] at h
      | some r => simpa [hs, obj_grow hs] using h
    · cases h
  case faddr n x =>
    simp only [opV] at h ⊢
    split at h
    · rename_i h1; (try rw [h1]); exact h
    · rename_i id ver _ _ h1
      (try rw [h1])
      cases hs : S.obj? id ver with
      | none => simp [hs] at h
      | some r => simpa [hs, obj_grow hs] using h
    · cases h
  case ld1 x =>
    simp only [opV] at h ⊢
    split at h
    · rename_i h1; (try rw [h1]); exact h
    · rename_i id ver _ _ h1
      (try rw [h1])
      cases hs : S.obj? id ver with
      | none => simp [hs] at h
      | some r => simpa [hs, obj_grow hs] using h
    · cases h
  case ldn n x =>
    simp only [opV] at h ⊢
    split at h
    · rename_i h1; (try rw [h1]); exact h
    · rename_i id ver _ _ h1
      (try rw [h1])
      cases hs : S.obj? id ver with
      | none => simp [hs] at h
      | some r => simpa [hs, obj_grow hs] using h
    · cases h
  case slA sz x lo hi =>
    simp only [opV] at h ⊢
    split at h
    · rename_i h1; (try rw [h1]); exact h
    · rename_i h1; (try rw [h1]); exact h
    · rename_i id ver _ _ h1
      (try rw [h1])
      cases hs : S.obj? id ver with
      | none => simp only [hs] at h; split at h <;> simp at h
      | some r => simpa [hs, obj_grow hs] using h
    · cases h
  case nilChk x =>
    simp only [opV] at h ⊢
    split at h
    · rename_i id ver _ _ h1
      (try rw [h1])
      cases hs : S.obj? id ver with
      | none => simp [hs] at h
      | some r => simpa [hs, obj_grow hs] using h
    all_goals first | (rename_i h1; (try rw [h1]); exact h) | cases h
  case b2s x =>
    simp only [opV] at h ⊢
    split at h
    · rename_i h1; (try rw [h1]); exact h
    · rename_i h1; (try rw [h1]); exact h
    · rename_i id ver _ _ h1
      (try rw [h1])
      cases hs : S.obj? id ver with
      | none => simp [hs] at h
      | some r => simpa [hs, obj_grow hs] using h
    · cases h
  all_goals exact h
theorem grow_all {s : AStm} {e : Nat → V} {v : V} (h : stmV P s e S v) (hs : growA P s e S v) (T : Store) : stmV P s e (S ++ T) v := by
  cases s with
  | p op =>
    simp only [stmV] at *
    exact opV_grow h
  | call f args => exact hs T
  | callv x args =>
    simp only [stmV, growA] at *
    split at hs
    · rename_i f first cap hf; rw [hf]; exact hs T
    · cases hs
  | _ => exact h.elim
def sLoud (P : Program) (it : AItem) (K : (Nat → V) → Store → Prop) (e : Nat → V) (S : Store) : Prop :=
  (wantedV it.guard e = some true ∧ stmA P it.stm e S fun r S' => K (putf e it.dst r) S') ∨ (wantedV it.guard e = some false ∧ K (putf e it.dst .skipped) S)
theorem sLoud_grows {it : AItem} {K : (Nat → V) → Store → Prop} {e : Nat → V} {S : Store} (hg : it.grows = true) (h : sLoud P it K e S) : sLoud P it (fun e' S' => (∃ T, S' = S ++ T) ∧ K e' S') e S := by
  obtain ⟨d, g, s⟩ := it
  rcases h with ⟨h1, h2⟩ | ⟨h1, h2⟩
  · refine .inl ⟨h1, ?_⟩
    simp only at h2 ⊢
    cases s <;> simp only [AItem.grows, Bool.false_eq_true] at hg
    · simp only [stmA] at h2 ⊢
      split at h2
      · rename_i vs hv; exact ⟨⟨_, rfl⟩, h2⟩
      · exact h2.elim
    · simp only [stmA] at h2 ⊢; exact ⟨⟨_, rfl⟩, h2⟩
    · simp only [stmA] at h2 ⊢
      split at h2
      · rename_i vs hv; exact ⟨⟨_, rfl⟩, h2⟩
      · exact h2.elim
  · exact .inr ⟨h1, ⟨[], by simp⟩, h2⟩
theorem again_get {E : Env} {t : Nat} {v : V} (hv : E.get t = v) : Env.get ((t, v) :: E) = E.get := by
  funext k
  simp only [Env.get]
  split
  · rename_i hk; rw [hk, hv]
  · rfl
theorem guard_cases {g : Option (Nat × Bool)} {E : Env} {A B : Env → Prop} (h : guardA g E A B) : ∃ E' : Env, E'.get = E.get ∧ ((wantedV g E.get = some true ∧ A E') ∨ (wantedV g E.get = some false ∧ B E')) := by
  cases g with
  | none => exact ⟨E, rfl, .inl ⟨rfl, h⟩⟩
  | some p =>
    obtain ⟨t, want⟩ := p
    simp only [guardA] at h
    split at h
    · rename_i x hx
      by_cases hw : x = want
      · subst hw
        exact ⟨_, again_get hx, .inl ⟨by simp [wantedV, hx], h.1 rfl⟩⟩
      · have hn : x = !want := by cases x <;> cases want <;> simp_all
        exact ⟨_, again_get (by rw [hx, hn]), .inr ⟨by simp only [wantedV, hx]; rw [beq_eq_false_iff_ne.2 hw], h.2 hn⟩⟩
    · rename_i hx
      exact ⟨E, rfl, .inr ⟨by simp only [wantedV, hx], h⟩⟩
    · cases h
theorem regO_loud {it : AItem} {r : List (Fl × AItem)} {E : Env} {K : Env → Store → Prop} (h : regO P ((.loud, it) :: r) E S K) : sLoud P it (fun e S' => ∃ E' : Env, E'.get = e ∧ regO P r E' S' K) E.get S := by
  obtain ⟨d, g, s⟩ := it
  simp only [regO] at h
  obtain ⟨E', hE', hh⟩ := guard_cases h
  rcases hh with ⟨h1, h2⟩ | ⟨h1, h2⟩
  · refine .inl ⟨h1, ?_⟩
    simp only [itemO] at h2
    rw [hE'] at h2
    exact stmA_mono (fun v S' hk => ⟨_, by rw [putf_env, hE'], hk⟩) h2
  · exact .inr ⟨h1, _, by rw [putf_env, hE'], h2⟩
theorem regO_quiet {f : Fl} (hf : f ≠ .loud) {it : AItem} {r : List (Fl × AItem)} {E : Env} {K : Env → Store → Prop} (h : regO P ((f, it) :: r) E S K) :
    ∃ v, DV P it E.get S v ∧ (f = .stable → ∀ S', DV P it E.get S' v) ∧ (f = .grow → ∀ T, DV P it E.get (S ++ T) v) ∧ ∃ E' : Env, E'.get = putf E.get it.dst v ∧ regO P r E' S K := by
  obtain ⟨d, g, s⟩ := it
  simp only [regO] at h
  obtain ⟨E', hE', hh⟩ := guard_cases h
  rcases hh with ⟨h1, h2⟩ | ⟨h1, h2⟩
  · cases f with
    | loud => exact absurd rfl hf
    | quiet =>
      simp only [itemO] at h2
      rw [hE'] at h2
      obtain ⟨v, h3, h4⟩ := stmV_of_stmD h2
      exact ⟨v, .inl ⟨h1, h3⟩, (fun hh => by cases hh), (fun hh => by cases hh), _, by rw [putf_env, hE'], h4⟩
    | grow =>
      simp only [itemO] at h2
      rw [hE'] at h2
      obtain ⟨v, h3, h4, h5⟩ := stmV_of_stmD h2
      exact ⟨v, .inl ⟨h1, h3⟩, (fun hh => by cases hh), (fun _ T => .inl ⟨h1, grow_all h3 h4 T⟩), _, by rw [putf_env, hE'], h5⟩
    | stable =>
      simp only [itemO] at h2
      rw [hE'] at h2
      obtain ⟨v, h3, h4, h5⟩ := stmV_of_stmD h2
      exact ⟨v, .inl ⟨h1, h3⟩, (fun _ S' => .inl ⟨h1, stable_all h3 h4 S'⟩), (fun hh => by cases hh), _, by rw [putf_env, hE'], h5⟩
  · exact ⟨.skipped, .inr ⟨h1, rfl⟩, (fun _ S' => .inr ⟨h1, rfl⟩), (fun _ T => .inr ⟨h1, rfl⟩), _, by rw [putf_env, hE'], h2⟩
theorem sLoud_congr {x y : AItem} {e : Nat → V} {u : V} {K : (Nat → V) → Store → Prop} (h : ∀ d, y.dst = some d → d ∉ x.looks) (hc : sLoud P x K (putf e y.dst u) S) : sLoud P x (fun e' S' => ∃ r, e' = putf e x.dst r ∧ K (putf (putf e y.dst u) x.dst r) S') e S := by
  have hg : ∀ t ∈ x.looks, putf e y.dst u t = e t := by
    intro t ht
    cases hd : y.dst with
    | none => rfl
    | some d =>
      simp only [putf]
      rw [if_neg]
      rintro rfl
      exact h t hd ht
  have hw : wantedV x.guard (putf e y.dst u) = wantedV x.guard e := by
    obtain ⟨d, g, s⟩ := x
    cases g with
    | none => rfl
    | some p => obtain ⟨t, want⟩ := p; simp only [wantedV]; rw [hg t (by simp [AItem.looks])]
  rcases hc with ⟨h1, h2⟩ | ⟨h1, h2⟩
  · refine .inl ⟨by rw [← hw]; exact h1, stmA_mono (fun r S' hk => ⟨r, rfl, hk⟩) (stmA_congr (fun t ht => hg t (by simp [AItem.looks, ht])) h2)⟩
  · exact .inr ⟨by rw [← hw]; exact h1, .skipped, rfl, h2⟩
theorem sLoud_mono {x : AItem} {e : Nat → V} {K K' : (Nat → V) → Store → Prop} (hk : ∀ e' S', K e' S' → K' e' S') (h : sLoud P x K e S) : sLoud P x K' e S := by
  rcases h with ⟨h1, h2⟩ | ⟨h1, h2⟩
  · exact .inl ⟨h1, stmA_mono (fun r S' => hk _ _) h2⟩
  · exact .inr ⟨h1, hk _ _ h2⟩
end
section
variable {P : Program} {ops : Array Oper} {items : List AItem} {fl : Nat → Fl} {Fin : (Nat → V) → Store → Prop}
def sOp (P : Program) (items : List AItem) (fl : Nat → Fl) (i : Nat) (K : (Nat → V) → Store → Prop) (e : Nat → V) (S : Store) : Prop :=
  match items[i]? with
  | none => False
  | some it => (fl i = .loud ∧ sLoud P it K e S) ∨ (fl i ≠ .loud ∧ ∃ v, DV P it e S v ∧ K (putf e it.dst v) S)
def sAny (P : Program) (ops : Array Oper) (items : List AItem) (fl : Nat → Fl) (Fin : (Nat → V) → Store → Prop) : Nat → Array Bool → (Nat → V) → Store → Prop
  | 0, listed, e, S => Region.ready .any ops listed = [] ∧ Fin e S
  | fuel + 1, listed, e, S => Region.ready .any ops listed ≠ [] ∧ ∀ i ∈ Region.ready .any ops listed, sOp P items fl i (sAny P ops items fl Fin fuel (listed.setIfInBounds i true)) e S
def closedL (ops : Array Oper) (listed : Array Bool) : Prop := ∀ i o, ops[i]? = some o → listed.getD i false = true → ∀ e ∈ o.after, Region.binds .any e = true → listed.getD e.on false = true
theorem closedL_set {listed : Array Bool} (h : closedL ops listed) {i : Nat} (hi : i ∈ Region.ready .any ops listed) : closedL ops (listed.setIfInBounds i true) := by
  intro j o hj hl e he hb
  obtain ⟨_, oi, hoi, hall⟩ := mem_ready.1 hi
  by_cases hij : j = i
  · subst hij
    rw [hoi] at hj
    cases hj
    exact getD_set_true (hall e he hb)
  · rw [getD_set_ne false (Ne.symm hij)] at hl
    exact getD_set_true (h j o hj hl e he hb)
inductive Reach (ops : Array Oper) : Nat → Nat → Prop
  | one {i : Nat} {o : Oper} {e : Edge} (ho : ops[i]? = some o) (he : e ∈ o.after) (hb : Region.binds .any e = true) : Reach ops i e.on
  | more {i p : Nat} {o : Oper} {e : Edge} (ho : ops[i]? = some o) (he : e ∈ o.after) (hb : Region.binds .any e = true) (hr : Reach ops e.on p) : Reach ops i p
theorem reach_listed {listed : Array Bool} (h : closedL ops listed) {i p : Nat} (hr : Reach ops i p) : (∀ o, ops[i]? = some o → ∀ e ∈ o.after, Region.binds .any e = true → listed.getD e.on false = true) → listed.getD p false = true := by
  induction hr with
  | one ho he hb => exact fun hall => hall _ ho _ he hb
  | more ho he hb hr ih => exact fun hall => ih fun o' ho' e' he' hb' => h _ o' ho' (hall _ ho _ he hb) e' he' hb'
theorem un_false {listed : Array Bool} {i : Nat} (h : listed.getD i true = false) : listed.getD i false = false := by
  rw [Array.getD_eq_getD_getElem?] at *
  cases hq : listed[i]? with
  | none => rfl
  | some b => rw [hq] at h; simpa using h
theorem ready_not_reach {listed : Array Bool} (h : closedL ops listed) {i j : Nat} (hj : j ∈ Region.ready .any ops listed) (hi : listed.getD i false = false) : ¬ Reach ops j i := fun hr => by
  obtain ⟨_, o, ho, hall⟩ := mem_ready.1 hj
  have := reach_listed h hr fun o' ho' e he hb => by rw [ho] at ho'; cases ho'; exact hall e he hb
  rw [hi] at this
  cases this
theorem sFirst_quiet {i : Nat} {it : AItem} {v : V} (hi : items[i]? = some it) (hq : fl i ≠ .loud) :
    ∀ (fuel : Nat) (listed : Array Bool) (e : Nat → V) (S : Store), closedL ops listed →
      (∀ j jt, items[j]? = some jt → j ≠ i → listed.getD j true = false → ¬ Reach ops j i → it.apart jt = true ∧ (fl j = .loud → fl i = .stable ∨ (fl i = .grow ∧ jt.grows = true))) →
      i ∈ Region.ready .any ops listed → DV P it e S v → (fl i = .stable → ∀ S', DV P it e S' v) → (fl i = .grow → ∀ T, DV P it e (S ++ T) v) →
      sAny P ops items fl Fin fuel (listed.setIfInBounds i true) (putf e it.dst v) S → sAny P ops items fl Fin (fuel + 1) listed e S := by
  intro fuel
  induction fuel with
  | zero =>
    intro listed e S hcl hfree hr hy hst hgr H
    refine ⟨fun h => by rw [h] at hr; simp at hr, fun j hj => ?_⟩
    by_cases hji : j = i
    · subst hji
      unfold sOp
      rw [hi]
      exact .inr ⟨hq, v, hy, H⟩
    · exfalso
      have := ready_mono hj hji
      rw [H.1] at this
      simp at this
  | succ fuel ih =>
    intro listed e S hcl hfree hr hy hst hgr H
    refine ⟨fun h => by rw [h] at hr; simp at hr, fun j hj => ?_⟩
    by_cases hji : j = i
    · subst hji
      unfold sOp
      rw [hi]
      exact .inr ⟨hq, v, hy, H⟩
    · have h1 := H.2 j (ready_mono hj hji)
      have hnr := ready_not_reach hcl hj (un_false (mem_ready.1 hr).1)
      have hjun := (mem_ready.1 hj).1
      have hfree' : ∀ k kt, items[k]? = some kt → k ≠ i → (listed.setIfInBounds j true).getD k true = false → ¬ Reach ops k i → it.apart kt = true ∧ (fl k = .loud → fl i = .stable ∨ (fl i = .grow ∧ kt.grows = true)) := fun k kt hk hki hun hno => by
        by_cases hjk : j = k
        · subst hjk
          exact hfree j kt hk hki hjun hno
        · rw [getD_set_ne true hjk] at hun
          exact hfree k kt hk hki hun hno
      unfold sOp at h1 ⊢
      split at h1
      · exact h1.elim
      · rename_i jt hjt
        obtain ⟨hap, hls⟩ := hfree j jt hjt hji hjun hnr
        obtain ⟨a1, a2, a3⟩ := apart_spec hap
        rcases h1 with ⟨hl, h1⟩ | ⟨hl, u, hu, hK⟩
        · rcases hls hl with hs1 | ⟨hs1, hs2⟩
          · refine .inl ⟨hl, sLoud_mono ?_ (sLoud_congr a1 h1)⟩
            rintro e' S' ⟨r, rfl, hK⟩
            rw [putf_comm e v r a2, Array.setIfInBounds_comm _ _ (Ne.symm hji)] at hK
            have hst' := hst hs1
            exact ih (listed.setIfInBounds j true) _ S' (closedL_set hcl hj) hfree' (ready_mono hr (Ne.symm hji)) ((DV.put a3).2 (hst' S')) (fun _ S'' => (DV.put a3).2 (hst' S'')) (fun hh => by rw [hs1] at hh; cases hh) hK
          · refine .inl ⟨hl, sLoud_mono ?_ (sLoud_grows hs2 (sLoud_congr a1 h1))⟩
            rintro e' S' ⟨⟨T, rfl⟩, r, rfl, hK⟩
            rw [putf_comm e v r a2, Array.setIfInBounds_comm _ _ (Ne.symm hji)] at hK
            have hgr' := hgr hs1
            exact ih (listed.setIfInBounds j true) _ (S ++ T) (closedL_set hcl hj) hfree' (ready_mono hr (Ne.symm hji)) ((DV.put a3).2 (hgr' T)) (fun hh => by rw [hs1] at hh; cases hh) (fun _ T' => (DV.put a3).2 (by rw [List.append_assoc]; exact hgr' (T ++ T'))) hK
        · refine .inr ⟨hl, u, (DV.put a1).1 hu, ?_⟩
          rw [putf_comm e v u a2, Array.setIfInBounds_comm _ _ (Ne.symm hji)] at hK
          exact ih (listed.setIfInBounds j true) _ S (closedL_set hcl hj) hfree' (ready_mono hr (Ne.symm hji)) ((DV.put a3).2 hy) (fun hs S'' => (DV.put a3).2 (hst hs S'')) (fun hs T => (DV.put a3).2 (hgr hs T)) hK
theorem sFirst_loud {i : Nat} {it : AItem} (hi : items[i]? = some it) (hq : fl i = .loud) {fuel : Nat} {listed : Array Bool} {e : Nat → V} {S : Store} (hcl : closedL ops listed)
    (hfree : ∀ j, j < ops.size → j ≠ i → listed.getD j true = false → Reach ops j i) (hr : i ∈ Region.ready .any ops listed)
    (H : sLoud P it (fun e' S' => sAny P ops items fl Fin fuel (listed.setIfInBounds i true) e' S') e S) : sAny P ops items fl Fin (fuel + 1) listed e S := by
  refine ⟨fun h => by rw [h] at hr; simp at hr, fun j hj => ?_⟩
  by_cases hji : j = i
  · subst hji
    unfold sOp
    rw [hi]
    exact .inl ⟨hq, H⟩
  · exfalso
    obtain ⟨h1, o, ho, _⟩ := mem_ready.1 hj
    exact ready_not_reach hcl hj (un_false (mem_ready.1 hr).1) (hfree j (Array.getElem?_eq_some_iff.1 ho).1 hji h1)
theorem maskOf_spec {ms : List Nat} {o : Oper} {i : Nat} (ho : ops[i]? = some o) (hms : ∀ k p, (ms.getD k 0).testBit p = true → Reach ops k p) {p : Nat} (h : (maskOf ms o).testBit p = true) : Reach ops i p := by
  have key : ∀ (l : List Edge) (m : Nat), (∀ e ∈ l, e ∈ o.after) → (∀ p, m.testBit p = true → Reach ops i p) → ∀ p, (l.foldl (fun m e => if Region.binds .any e then m ||| (2 ^ e.on ||| ms.getD e.on 0) else m) m).testBit p = true → Reach ops i p := by
    intro l
    induction l with
    | nil => exact fun m _ hm p hp => hm p hp
    | cons e l ih =>
      intro m hl hm p hp
      simp only [List.foldl_cons] at hp
      refine ih _ (fun x hx => hl x (List.mem_cons_of_mem _ hx)) (fun q hq => ?_) p hp
      split at hq
      · rename_i hb
        rw [Nat.testBit_or, Nat.testBit_or, Bool.or_eq_true, Bool.or_eq_true] at hq
        have he := hl e (List.mem_cons_self ..)
        rcases hq with hq | hq | hq
        · exact hm q hq
        · rw [Nat.testBit_two_pow] at hq
          have := of_decide_eq_true hq
          subst this
          exact .one ho he hb
        · exact .more ho he hb (hms _ _ hq)
      · exact hm q hq
  exact key o.after.toList 0 (fun e he => by simpa using he) (fun p hp => by simp at hp) p h
theorem masksOf_spec : ∀ (l : List Oper) (ms : List Nat), (∀ k o, l[k]? = some o → ops[ms.length + k]? = some o) → (∀ k p, (ms.getD k 0).testBit p = true → Reach ops k p) → ∀ k p, ((masksOf l ms).getD k 0).testBit p = true → Reach ops k p
  | [], ms, _, h, k, p, hp => h k p hp
  | o :: l, ms, hl, h, k, p, hp => by
    have ho : ops[ms.length]? = some o := by simpa using hl 0 o rfl
    refine masksOf_spec l (ms ++ [maskOf ms o]) (fun k o' hk => ?_) (fun k p hkp => ?_) k p hp
    · have := hl (k + 1) o' (by simpa using hk)
      rw [← this]
      congr 1
      simp
      omega
    · by_cases hlt : k < ms.length
      · rw [List.getD_eq_getElem?_getD, List.getElem?_append_left hlt] at hkp
        exact h k p (by rw [List.getD_eq_getElem?_getD]; exact hkp)
      · by_cases hke : k = ms.length
        · subst hke
          rw [List.getD_eq_getElem?_getD] at hkp
          simp at hkp
          exact maskOf_spec ho h hkp
        · rw [List.getD_eq_getElem?_getD, List.getElem?_eq_none (by simp; omega)] at hkp
          simp at hkp
theorem masks_spec {k p : Nat} (h : ((masks ops).getD k 0).testBit p = true) : Reach ops k p :=
  masksOf_spec ops.toList [] (fun k o hk => by simpa using hk) (fun k p hp => by simp at hp) k p h
theorem ready_of {k : Nat} {listed : Array Bool} {o : Oper} (ho : ops[k]? = some o) (hk : listed.getD k true = false) (hl : ∀ e ∈ o.after, Region.binds .any e = true → listed.getD e.on false = true) : k ∈ Region.ready .any ops listed :=
  mem_ready.2 ⟨hk, o, ho, hl⟩
theorem okO_flags {ms : List Nat} {full : List (Nat × Fl)} : ∀ (l : List (Nat × Fl)) (done : Nat), okO ops items ms full done l = true → ∀ p ∈ l, flOf full p.1 = p.2
  | [], _, _, p, hp => by simp at hp
  | (i, f) :: l, done, h, p, hp => by
    simp only [okO, Bool.and_eq_true, decide_eq_true_eq] at h
    rcases List.mem_cons.1 hp with h1 | h1
    · subst h1; exact h.1.1.2
    · exact okO_flags l _ h.2 p h1
theorem sLex (full : List (Nat × Fl)) (K : Env → Store → Prop) (hFin : ∀ (E : Env) (S : Store), K E S → Fin E.get S) : ∀ (l : List (Nat × Fl)) (sel : List (Fl × AItem)) (done : Nat) (listed : Array Bool) (E : Env) (S : Store), (∀ p ∈ l, flOf full p.1 = p.2) → okO ops items (masks ops) full done l = true → selO items l = some sel →
    listed.size = ops.size → (∀ j, listed.getD j false = done.testBit j) → closedL ops listed → (∀ j, j < ops.size → done.testBit j = true ∨ ∃ p ∈ l, p.1 = j) → regO P sel E S K → sAny P ops items (flOf full) Fin l.length listed E.get S
  | [], sel, done, listed, E, S, _, _, hs, hsz, hd, _, hcov, h => by
    simp only [selO, Option.some.injEq] at hs
    subst hs
    refine ⟨?_, hFin E S h⟩
    cases hq : Region.ready .any ops listed with
    | nil => rfl
    | cons j js =>
      have hj : j ∈ Region.ready .any ops listed := by rw [hq]; simp
      obtain ⟨h1, o, ho, _⟩ := mem_ready.1 hj
      have hlt := (Array.getElem?_eq_some_iff.1 ho).1
      rcases hcov j hlt with h2 | ⟨p, hp, _⟩
      · rw [← hd j, un_false h1] at h2
        cases h2
      · simp at hp
  | (i, f) :: l, sel, done, listed, E, S, hfls, hok, hs, hsz, hd, hcl, hcov, h => by
    simp only [okO, Bool.and_eq_true, Bool.not_eq_true', decide_eq_true_eq] at hok
    obtain ⟨⟨⟨hni, hfl⟩, hmid⟩, hrest⟩ := hok
    split at hmid
    · rename_i o it ho hit
      simp only [selO, hit] at hs
      split at hs
      · rename_i it' sel' hit' hsel
        simp only [Option.some.injEq] at hit' hs
        subst hit'
        subst hs
        simp only [Bool.and_eq_true, List.all_eq_true, Bool.or_eq_true, Bool.not_eq_true', decide_eq_true_eq] at hmid
        obtain ⟨hedges, hpairs⟩ := hmid
        have hilt : i < ops.size := (Array.getElem?_eq_some_iff.1 ho).1
        have hlts : i < listed.size := by omega
        have tf : ∀ j, j < ops.size → listed.getD j false = false → listed.getD j true = false := fun j hj h => by
          have hlt' : j < listed.size := by omega
          simp only [Array.getD_eq_getD_getElem?, Array.getElem?_eq_getElem hlt', Option.getD_some] at h ⊢
          exact h
        have hiun : listed.getD i true = false := tf i hilt (by rw [hd, hni])
        have hready : i ∈ Region.ready .any ops listed := ready_of ho hiun fun e he hb => by
          rcases hedges e (by simpa using he) with h1 | h1
          · rw [hb] at h1; cases h1
          · rw [hd]; exact h1
        have hrest' : ∀ j, j < ops.size → j ≠ i → listed.getD j true = false → ∃ g, (j, g) ∈ l := fun j hj hne hun => by
          rcases hcov j hj with h1 | ⟨⟨k, g⟩, h1, h2⟩
          · rw [← hd, un_false hun] at h1; cases h1
          · simp only at h2
            subst h2
            rcases List.mem_cons.1 h1 with h3 | h3
            · simp only [Prod.mk.injEq] at h3
              exact absurd h3.1 hne
            · exact ⟨g, h3⟩
        have hih : ∀ (E' : Env) (S' : Store), regO P sel' E' S' K → sAny P ops items (flOf full) Fin l.length (listed.setIfInBounds i true) E'.get S' := fun E' S' hr =>
          sLex full K hFin l sel' (done ||| 2 ^ i) (listed.setIfInBounds i true) E' S' (fun p hp => hfls p (List.mem_cons_of_mem _ hp)) hrest hsel (by simpa using hsz) (fun j => by
            rw [Nat.testBit_or, Nat.testBit_two_pow]
            by_cases hji : i = j
            · subst hji
              simp [Array.getD_eq_getD_getElem?, hlts]
            · rw [getD_set_ne false hji, hd]
              simp [hji]) (closedL_set hcl hready) (fun j hj => by
            rw [Nat.testBit_or, Nat.testBit_two_pow]
            rcases hcov j hj with h1 | ⟨p, h1, h2⟩
            · exact .inl (by rw [h1]; rfl)
            · rcases List.mem_cons.1 h1 with h3 | h3
              · subst h3
                exact .inl (by simp [← h2])
              · exact .inr ⟨p, h3, h2⟩) hr
        have hfree : ∀ j g, (j, g) ∈ l → Reach ops j i ∨ (f ≠ .loud ∧ ∀ jt, items[j]? = some jt → it.apart jt = true ∧ (g ≠ .loud ∨ f = .stable ∨ (f = .grow ∧ jt.grows = true))) := fun j g hj => by
          have h1 := hpairs (j, g) hj
          simp only at h1
          rcases h1 with h1 | ⟨h1, h3⟩
          · exact .inl (masks_spec h1)
          · refine .inr ⟨h1, fun jt hjt => ?_⟩
            rw [hjt] at h3
            simp only [Bool.and_eq_true, Bool.or_eq_true, decide_eq_true_eq] at h3
            refine ⟨h3.1, ?_⟩
            rcases h3.2 with (h4 | h4) | h4
            · exact .inl h4
            · exact .inr (.inl h4)
            · exact .inr (.inr h4)
        rw [List.length_cons]
        by_cases hloud : f = .loud
        · subst hloud
          refine sFirst_loud hit hfl hcl (fun j hj hne hun => ?_) hready (sLoud_mono ?_ (regO_loud h))
          · obtain ⟨g, hg⟩ := hrest' j hj hne hun
            rcases hfree j g hg with h1 | h1
            · exact h1
            · exact absurd rfl h1.1
          · rintro e' S' ⟨E', rfl, hr⟩
            exact hih E' S' hr
        · obtain ⟨v, hv, hst, hgr, E', hE', hr⟩ := regO_quiet hloud h
          refine sFirst_quiet hit (by rw [hfl]; exact hloud) _ listed E.get S hcl (fun j jt hjt hne hun hnr => ?_) hready hv (fun hs => hst (by rw [← hfl]; exact hs)) (fun hs => hgr (by rw [← hfl]; exact hs)) (by rw [← hE']; exact hih E' S hr)
          have hj : j < ops.size := by
            rcases Nat.lt_or_ge j ops.size with hlt | hge
            · exact hlt
            · rw [Array.getD_eq_getD_getElem?, Array.getElem?_eq_none (by omega)] at hun
              simp at hun
          obtain ⟨g, hg⟩ := hrest' j hj hne hun
          rcases hfree j g hg with h1 | ⟨h1, h3⟩
          · exact absurd h1 hnr
          · obtain ⟨h3, h2⟩ := h3 jt hjt
            refine ⟨h3, fun hl => ?_⟩
            have hgl : flOf full j = g := hfls (j, g) (List.mem_cons_of_mem _ hg)
            rw [hfl]
            rcases h2 with h2 | h2
            · exact absurd (hgl.symm.trans hl) h2
            · exact h2
      · cases hs
    · cases hmid
theorem sLexP (full tail : List (Nat × Fl)) (n dEnd : Nat) (K : Env → Store → Prop) (hfts : ∀ p ∈ tail, flOf full p.1 = p.2) (hbase : ∀ (listed : Array Bool) (E : Env) (S : Store), listed.size = ops.size → (∀ j, listed.getD j false = dEnd.testBit j) → closedL ops listed → (∀ j, j < ops.size → dEnd.testBit j = true ∨ ∃ p ∈ tail, p.1 = j) → K E S → sAny P ops items (flOf full) Fin n listed E.get S) : ∀ (l : List (Nat × Fl)) (sel : List (Fl × AItem)) (done : Nat) (listed : Array Bool) (E : Env) (S : Store), (∀ p ∈ l, flOf full p.1 = p.2) → okP ops items (masks ops) full tail done l = some dEnd → selO items l = some sel →
    listed.size = ops.size → (∀ j, listed.getD j false = done.testBit j) → closedL ops listed → (∀ j, j < ops.size → done.testBit j = true ∨ ∃ p ∈ l ++ tail, p.1 = j) → regO P sel E S K → sAny P ops items (flOf full) Fin (l.length + n) listed E.get S
  | [], sel, done, listed, E, S, _, hok, hs, hsz, hd, hcl, hcov, h => by
    simp only [selO, Option.some.injEq] at hs
    subst hs
    simp only [okP, Option.some.injEq] at hok
    subst hok
    rw [List.length_nil, Nat.zero_add]
    exact hbase listed E S hsz hd hcl (fun j hj => by simpa using hcov j hj) h
  | (i, f) :: l, sel, done, listed, E, S, hfls, hok, hs, hsz, hd, hcl, hcov, h => by
    rw [okP] at hok
    split at hok
    rotate_left
    · cases hok
    rename_i hok1
    simp only [okI, Bool.and_eq_true, Bool.not_eq_true', decide_eq_true_eq] at hok1
    obtain ⟨⟨hni, hfl⟩, hmid⟩ := hok1
    have hrest := hok
    split at hmid
    · rename_i o it ho hit
      simp only [selO, hit] at hs
      split at hs
      · rename_i it' sel' hit' hsel
        simp only [Option.some.injEq] at hit' hs
        subst hit'
        subst hs
        simp only [Bool.and_eq_true, List.all_eq_true, Bool.or_eq_true, Bool.not_eq_true', decide_eq_true_eq] at hmid
        obtain ⟨hedges, hpairs⟩ := hmid
        have hilt : i < ops.size := (Array.getElem?_eq_some_iff.1 ho).1
        have hlts : i < listed.size := by omega
        have tf : ∀ j, j < ops.size → listed.getD j false = false → listed.getD j true = false := fun j hj h => by
          have hlt' : j < listed.size := by omega
          simp only [Array.getD_eq_getD_getElem?, Array.getElem?_eq_getElem hlt', Option.getD_some] at h ⊢
          exact h
        have hiun : listed.getD i true = false := tf i hilt (by rw [hd, hni])
        have hready : i ∈ Region.ready .any ops listed := ready_of ho hiun fun e he hb => by
          rcases hedges e (by simpa using he) with h1 | h1
          · rw [hb] at h1; cases h1
          · rw [hd]; exact h1
        have hrest' : ∀ j, j < ops.size → j ≠ i → listed.getD j true = false → ∃ g, (j, g) ∈ l ++ tail := fun j hj hne hun => by
          rcases hcov j hj with h1 | ⟨⟨k, g⟩, h1, h2⟩
          · rw [← hd, un_false hun] at h1; cases h1
          · simp only at h2
            subst h2
            rw [List.cons_append] at h1
            rcases List.mem_cons.1 h1 with h3 | h3
            · simp only [Prod.mk.injEq] at h3
              exact absurd h3.1 hne
            · exact ⟨g, h3⟩
        have hih : ∀ (E' : Env) (S' : Store), regO P sel' E' S' K → sAny P ops items (flOf full) Fin (l.length + n) (listed.setIfInBounds i true) E'.get S' := fun E' S' hr =>
          sLexP full tail n dEnd K hfts hbase l sel' (done ||| 2 ^ i) (listed.setIfInBounds i true) E' S' (fun p hp => hfls p (List.mem_cons_of_mem _ hp)) hrest hsel (by simpa using hsz) (fun j => by
            rw [Nat.testBit_or, Nat.testBit_two_pow]
            by_cases hji : i = j
            · subst hji
              simp [Array.getD_eq_getD_getElem?, hlts]
            · rw [getD_set_ne false hji, hd]
              simp [hji]) (closedL_set hcl hready) (fun j hj => by
            rw [Nat.testBit_or, Nat.testBit_two_pow]
            rcases hcov j hj with h1 | ⟨p, h1, h2⟩
            · exact .inl (by rw [h1]; rfl)
            · rw [List.cons_append] at h1
              rcases List.mem_cons.1 h1 with h3 | h3
              · subst h3
                exact .inl (by simp [← h2])
              · exact .inr ⟨p, h3, h2⟩) hr
        have hfree : ∀ j g, (j, g) ∈ l ++ tail → Reach ops j i ∨ (f ≠ .loud ∧ ∀ jt, items[j]? = some jt → it.apart jt = true ∧ (g ≠ .loud ∨ f = .stable ∨ (f = .grow ∧ jt.grows = true))) := fun j g hj => by
          have h1 := hpairs (j, g) hj
          simp only at h1
          rcases h1 with h1 | ⟨h1, h3⟩
          · exact .inl (masks_spec h1)
          · refine .inr ⟨h1, fun jt hjt => ?_⟩
            rw [hjt] at h3
            simp only [Bool.and_eq_true, Bool.or_eq_true, decide_eq_true_eq] at h3
            refine ⟨h3.1, ?_⟩
            rcases h3.2 with (h4 | h4) | h4
            · exact .inl h4
            · exact .inr (.inl h4)
            · exact .inr (.inr h4)
        rw [List.length_cons, Nat.add_right_comm]
        by_cases hloud : f = .loud
        · subst hloud
          refine sFirst_loud hit hfl hcl (fun j hj hne hun => ?_) hready (sLoud_mono ?_ (regO_loud h))
          · obtain ⟨g, hg⟩ := hrest' j hj hne hun
            rcases hfree j g hg with h1 | h1
            · exact h1
            · exact absurd rfl h1.1
          · rintro e' S' ⟨E', rfl, hr⟩
            exact hih E' S' hr
        · obtain ⟨v, hv, hst, hgr, E', hE', hr⟩ := regO_quiet hloud h
          refine sFirst_quiet hit (by rw [hfl]; exact hloud) _ listed E.get S hcl (fun j jt hjt hne hun hnr => ?_) hready hv (fun hs => hst (by rw [← hfl]; exact hs)) (fun hs => hgr (by rw [← hfl]; exact hs)) (by rw [← hE']; exact hih E' S hr)
          have hj : j < ops.size := by
            rcases Nat.lt_or_ge j ops.size with hlt | hge
            · exact hlt
            · rw [Array.getD_eq_getD_getElem?, Array.getElem?_eq_none (by omega)] at hun
              simp at hun
          obtain ⟨g, hg⟩ := hrest' j hj hne hun
          rcases hfree j g hg with h1 | ⟨h1, h3⟩
          · exact absurd h1 hnr
          · obtain ⟨h3, h2⟩ := h3 jt hjt
            refine ⟨h3, fun hl => ?_⟩
            have hgl : flOf full j = g := by
              rcases List.mem_append.1 hg with hg | hg
              · exact hfls (j, g) (List.mem_cons_of_mem _ hg)
              · exact hfts (j, g) hg
            rw [hfl]
            rcases h2 with h2 | h2
            · exact absurd (hgl.symm.trans hl) h2
            · exact h2
      · cases hs
    · cases hmid
theorem sTwin (full : List (Nat × Fl)) (K : Env → Store → Prop) (hFin : ∀ (E : Env) (S : Store), K E S → Fin E.get S) (post post2 : List (Nat × Fl)) (sel sel2 : List (Fl × AItem)) (done : Nat) (listed : Array Bool) (E : Env) (S : Store) (hfl : ∀ p ∈ post, flOf full p.1 = p.2) (hfl2 : ∀ p ∈ post2, flOf full p.1 = p.2) (hok : okTw ops items (masks ops) full done post post2 = true) (hs : selO items post = some sel) (hs2 : selO items post2 = some sel2)
    (hsz : listed.size = ops.size) (hd : ∀ j, listed.getD j false = done.testBit j) (hcl : closedL ops listed) (hcov : ∀ j, j < ops.size → done.testBit j = true ∨ ∃ p ∈ post, p.1 = j) (h1 : regO P sel E S K) (h2 : regO P sel2 E S K) : sAny P ops items (flOf full) Fin post.length listed E.get S := by
  unfold okTw at hok
  split at hok
  · rename_i i r j r2
    simp only [Bool.and_eq_true, Bool.not_eq_true', decide_eq_true_eq] at hok
    obtain ⟨⟨⟨⟨⟨⟨⟨⟨⟨⟨⟨hij, hall⟩, hc2⟩, hc3⟩, hlen⟩, fi⟩, fj⟩, di⟩, dj⟩, hmid⟩, ok1⟩, ok2⟩ := hok
    split at hmid
    rotate_left
    · cases hmid
    rename_i o o' it jt ho ho' hit hjt
    simp only [Bool.and_eq_true, List.all_eq_true, List.any_eq_true, Bool.or_eq_true, Bool.not_eq_true', beq_iff_eq] at hmid hall hc2 hc3
    obtain ⟨ei, ej⟩ := hmid
    have hilt : i < ops.size := (Array.getElem?_eq_some_iff.1 ho).1
    have hjlt : j < ops.size := (Array.getElem?_eq_some_iff.1 ho').1
    have tf : ∀ j, j < ops.size → listed.getD j false = false → listed.getD j true = false := fun j hj h => by
      have hlt' : j < listed.size := by omega
      simp only [Array.getD_eq_getD_getElem?, Array.getElem?_eq_getElem hlt', Option.getD_some] at h ⊢
      exact h
    have ri : i ∈ Region.ready .any ops listed := ready_of ho (tf i hilt (by rw [hd, di])) fun e he hb => by
      rcases ei e (by simpa using he) with h | h
      · rw [hb] at h; cases h
      · rw [hd]; exact h
    have rj : j ∈ Region.ready .any ops listed := ready_of ho' (tf j hjlt (by rw [hd, dj])) fun e he hb => by
      rcases ej e (by simpa using he) with h | h
      · rw [hb] at h; cases h
      · rw [hd]; exact h
    have step : ∀ (a : Nat) (l : List (Nat × Fl)) (sl : List (Fl × AItem)), done.testBit a = false → a < listed.size → a ∈ Region.ready .any ops listed → (∀ p ∈ l, flOf full p.1 = p.2) → selO items l = some sl → okO ops items (masks ops) full (done ||| 2 ^ a) l = true → (∀ k, k < ops.size → done.testBit k = true ∨ k = a ∨ ∃ p ∈ l, p.1 = k) → ∀ (E' : Env) (S' : Store), regO P sl E' S' K → sAny P ops items (flOf full) Fin l.length (listed.setIfInBounds a true) E'.get S' := by
      intro a l sl da hla ra hfl' hsl hok' hc E' S' hr
      refine sLex full K hFin l sl (done ||| 2 ^ a) (listed.setIfInBounds a true) E' S' hfl' hok' hsl (by simpa using hsz) (fun k => ?_) (closedL_set hcl ra) (fun k hk => ?_) hr
      · rw [Nat.testBit_or, Nat.testBit_two_pow]
        by_cases hji : a = k
        · subst hji
          simp [Array.getD_eq_getD_getElem?, hla]
        · rw [getD_set_ne false hji, hd]
          simp [hji]
      · rw [Nat.testBit_or, Nat.testBit_two_pow]
        rcases hc k hk with h | h | h
        · exact .inl (by rw [h]; rfl)
        · exact .inl (by simp [h])
        · exact .inr h
    simp only [selO, hit] at hs
    simp only [selO, hjt] at hs2
    split at hs
    rotate_left
    · cases hs
    rename_i it2 l2 e1 hsr
    simp only [Option.some.injEq] at e1 hs
    subst e1 hs
    split at hs2
    rotate_left
    · cases hs2
    rename_i jt2 l3 e2 hsr2
    simp only [Option.some.injEq] at e2 hs2
    subst e2 hs2
    have cov : ∀ k, k < ops.size → done.testBit k = true ∨ k = i ∨ ∃ p ∈ r, p.1 = k := fun k hk => by
      rcases hcov k hk with h | ⟨p, hp, hpk⟩
      · exact .inl h
      · rcases List.mem_cons.1 hp with h | h
        · subst h; exact .inr (.inl hpk.symm)
        · exact .inr (.inr ⟨p, h, hpk⟩)
    rw [List.length_cons]
    refine ⟨fun h => by rw [h] at ri; simp at ri, fun k hk => ?_⟩
    obtain ⟨hk1, ok, hok', _⟩ := mem_ready.1 hk
    have hklt := (Array.getElem?_eq_some_iff.1 hok').1
    have hkij : k = i ∨ k = j := by
      rcases cov k hklt with h | h | ⟨p, hp, hpk⟩
      · rw [← hd, un_false hk1] at h; cases h
      · exact .inl h
      · rcases hall p hp with (h3 | h3) | h3
        · exact .inr (hpk.symm.trans h3)
        · exfalso
          rw [hpk] at h3
          exact ready_not_reach hcl hk (by rw [hd, di]) (masks_spec h3)
        · exfalso
          rw [hpk] at h3
          exact ready_not_reach hcl hk (by rw [hd, dj]) (masks_spec h3)
    unfold sOp
    rcases hkij with rfl | rfl
    · rw [hit]
      refine .inl ⟨fi, sLoud_mono ?_ (regO_loud h1)⟩
      rintro e' S' ⟨E', rfl, hr⟩
      exact step k r _ di (by omega) ri (fun p hp => hfl p (List.mem_cons_of_mem _ hp)) hsr ok1 cov E' S' hr
    · rw [hjt]
      refine .inl ⟨fj, sLoud_mono ?_ (regO_loud h2)⟩
      rintro e' S' ⟨E', rfl, hr⟩
      rw [hlen]
      exact step k r2 _ dj (by omega) rj (fun p hp => hfl2 p (List.mem_cons_of_mem _ hp)) hsr2 ok2 (fun m hm => by
        rcases cov m hm with h | h | ⟨p, hp, hpk⟩
        · exact .inl h
        · obtain ⟨q, hq, hqi⟩ := hc3
          exact .inr (.inr ⟨q, hq, hqi.trans h.symm⟩)
        · rcases hc2 p hp with h | ⟨q, hq, hqp⟩
          · exact .inr (.inl (hpk.symm.trans h))
          · exact .inr (.inr ⟨q, hq, hqp.trans hpk⟩)) E' S' hr
  · cases hok
end
section
variable {P : Program} {ops : Array Oper} {items : List AItem} {Fin : (Nat → V) → Store → Prop} {S : Store}
theorem regT_loud {it : AItem} {r : AT (Fl × AItem)} {E : Env} {K : Env → Store → Prop} (h : regT P (.one (.loud, it) r) E S K) : sLoud P it (fun e S' => ∃ E' : Env, E'.get = e ∧ regT P r E' S' K) E.get S := regO_loud h
theorem regT_quiet {f : Fl} (hf : f ≠ .loud) {it : AItem} {r : AT (Fl × AItem)} {E : Env} {K : Env → Store → Prop} (h : regT P (.one (f, it) r) E S K) :
    ∃ v, DV P it E.get S v ∧ (f = .stable → ∀ S', DV P it E.get S' v) ∧ (f = .grow → ∀ T, DV P it E.get (S ++ T) v) ∧ ∃ E' : Env, E'.get = putf E.get it.dst v ∧ regT P r E' S K := regO_quiet hf h
theorem mem_remT {full : List (Nat × Fl)} {done j : Nat} {g : Fl} (h : (j, g) ∈ full) (hd : done.testBit j = false) : (j, g) ∈ remT full done := by
  unfold remT
  rw [List.mem_filter]
  exact ⟨h, by simp [hd]⟩
structure AtD (ops : Array Oper) (listed : Array Bool) (done : Nat) : Prop where
  sz : listed.size = ops.size
  bit : ∀ j, listed.getD j false = done.testBit j
  cl : closedL ops listed
theorem AtD.set {listed : Array Bool} {done i : Nat} (h : AtD ops listed done) (hi : i ∈ Region.ready .any ops listed) : AtD ops (listed.setIfInBounds i true) (done ||| 2 ^ i) := by
  obtain ⟨_, o, ho, _⟩ := mem_ready.1 hi
  have hilt : i < ops.size := (Array.getElem?_eq_some_iff.1 ho).1
  have hlts : i < listed.size := by have := h.sz; omega
  refine ⟨by simpa using h.sz, fun j => ?_, closedL_set h.cl hi⟩
  rw [Nat.testBit_or, Nat.testBit_two_pow]
  by_cases hji : i = j
  · subst hji
    simp [Array.getD_eq_getD_getElem?, hlts]
  · rw [getD_set_ne false hji, h.bit]
    simp [hji]
theorem AtD.un {listed : Array Bool} {done j : Nat} (h : AtD ops listed done) (hj : j < ops.size) (hd : done.testBit j = false) : listed.getD j true = false := by
  have hlt' : j < listed.size := by have := h.sz; omega
  have h2 := h.bit j
  rw [hd] at h2
  simp only [Array.getD_eq_getD_getElem?, Array.getElem?_eq_getElem hlt', Option.getD_some] at h2 ⊢
  exact h2
theorem headsT_ne {ms : List Nat} {full : List (Nat × Fl)} : ∀ (t : AT (Nat × Fl)) {n done : Nat}, okT ops items ms full t true n done = true → headsT t ≠ []
  | .fin, n, done, h => by simp [okT] at h
  | .one (i, f) r, n, done, _ => by simp [headsT]
  | .alt a b, n, done, h => by
    cases n with
    | zero => simp [okT] at h
    | succ n =>
      simp only [okT, Bool.and_eq_true] at h
      have := headsT_ne a h.2.1
      simp [headsT, this]
theorem sTree (full : List (Nat × Fl)) (K : Env → Store → Prop) (hFin : ∀ (E : Env) (S : Store), K E S → Fin E.get S) (hcov : ∀ j, j < ops.size → ∃ g, (j, g) ∈ full ∧ flOf full j = g) : ∀ (t : AT (Nat × Fl)) (sel : AT (Fl × AItem)), selT items t = some sel →
    (∀ (n done : Nat) (listed : Array Bool) (E : Env) (S : Store), okT ops items (masks ops) full t false n done = true → AtD ops listed done → regT P sel E S K → sAny P ops items (flOf full) Fin n listed E.get S) ∧
    (∀ (n done : Nat) (listed : Array Bool) (E : Env) (S : Store), okT ops items (masks ops) full t true (n + 1) done = true → AtD ops listed done → regT P sel E S K → ∀ k ∈ headsT t, k ∈ Region.ready .any ops listed ∧ sOp P items (flOf full) k (sAny P ops items (flOf full) Fin n (listed.setIfInBounds k true)) E.get S)
  | .fin, sel, hs => by
    simp only [selT, Option.some.injEq] at hs
    subst hs
    refine ⟨fun n done listed E S hok hd h => ?_, fun n done listed E S hok => by simp [okT] at hok⟩
    simp only [okT, Bool.not_false, Bool.true_and, Bool.and_eq_true, decide_eq_true_eq, List.all_eq_true, List.mem_range] at hok
    obtain ⟨rfl, hall⟩ := hok
    refine ⟨?_, hFin E S h⟩
    cases hq : Region.ready .any ops listed with
    | nil => rfl
    | cons j js =>
      have hj : j ∈ Region.ready .any ops listed := by rw [hq]; simp
      obtain ⟨h1, o, ho, _⟩ := mem_ready.1 hj
      have hlt := (Array.getElem?_eq_some_iff.1 ho).1
      have h2 := hall j hlt
      rw [← hd.bit j, un_false h1] at h2
      cases h2
  | .one (i, f) r, sel, hs => by
    simp only [selT] at hs
    split at hs
    rotate_left
    · cases hs
    rename_i it sel' hit hsel
    simp only [Option.some.injEq] at hs
    subst hs
    have ih := (sTree full K hFin hcov r sel' hsel).1
    refine ⟨fun n done listed E S hok hd h => ?_, fun n done listed E S hok hd h k hk => ?_⟩
    · cases n with
      | zero => simp [okT] at hok
      | succ n =>
        simp only [okT, Bool.and_eq_true, Bool.false_eq_true, if_false] at hok
        obtain ⟨hok1, hrest⟩ := hok
        simp only [okI, Bool.and_eq_true, Bool.not_eq_true', decide_eq_true_eq] at hok1
        obtain ⟨⟨hni, hfl⟩, hmid⟩ := hok1
        split at hmid
        rotate_left
        · cases hmid
        rename_i o it' ho hit'
        rw [hit] at hit'
        cases hit'
        simp only [Bool.and_eq_true, List.all_eq_true, Bool.or_eq_true, Bool.not_eq_true', decide_eq_true_eq] at hmid
        obtain ⟨hedges, hpairs⟩ := hmid
        have hilt : i < ops.size := (Array.getElem?_eq_some_iff.1 ho).1
        have hready : i ∈ Region.ready .any ops listed := ready_of ho (hd.un hilt hni) fun e he hb => by
          rcases hedges e (by simpa using he) with h1 | h1
          · rw [hb] at h1; cases h1
          · rw [hd.bit]; exact h1
        have hrest' : ∀ j, j < ops.size → j ≠ i → listed.getD j true = false → ∃ g, (j, g) ∈ remT full (done ||| 2 ^ i) ∧ flOf full j = g := fun j hj hne hun => by
          obtain ⟨g, hg, hgf⟩ := hcov j hj
          refine ⟨g, mem_remT hg ?_, hgf⟩
          rw [Nat.testBit_or, Nat.testBit_two_pow, ← hd.bit, un_false hun]
          simp [Ne.symm hne]
        have hih : ∀ (E' : Env) (S' : Store), regT P sel' E' S' K → sAny P ops items (flOf full) Fin n (listed.setIfInBounds i true) E'.get S' := fun E' S' hr => ih n _ _ E' S' hrest (hd.set hready) hr
        have hfree : ∀ j g, (j, g) ∈ remT full (done ||| 2 ^ i) → Reach ops j i ∨ (f ≠ .loud ∧ ∀ jt, items[j]? = some jt → it.apart jt = true ∧ (g ≠ .loud ∨ f = .stable ∨ (f = .grow ∧ jt.grows = true))) := fun j g hj => by
          have h1 := hpairs (j, g) hj
          simp only at h1
          rcases h1 with h1 | ⟨h1, h3⟩
          · exact .inl (masks_spec h1)
          · refine .inr ⟨h1, fun jt hjt => ?_⟩
            rw [hjt] at h3
            simp only [Bool.and_eq_true, Bool.or_eq_true, decide_eq_true_eq] at h3
            refine ⟨h3.1, ?_⟩
            rcases h3.2 with (h4 | h4) | h4
            · exact .inl h4
            · exact .inr (.inl h4)
            · exact .inr (.inr h4)
        by_cases hloud : f = .loud
        · subst hloud
          refine sFirst_loud hit hfl hd.cl (fun j hj hne hun => ?_) hready (sLoud_mono ?_ (regT_loud h))
          · obtain ⟨g, hg, _⟩ := hrest' j hj hne hun
            rcases hfree j g hg with h1 | h1
            · exact h1
            · exact absurd rfl h1.1
          · rintro e' S' ⟨E', rfl, hr⟩
            exact hih E' S' hr
        · obtain ⟨v, hv, hst, hgr, E', hE', hr⟩ := regT_quiet hloud h
          refine sFirst_quiet hit (by rw [hfl]; exact hloud) _ listed E.get S hd.cl (fun j jt hjt hne hun hnr => ?_) hready hv (fun hs => hst (by rw [← hfl]; exact hs)) (fun hs => hgr (by rw [← hfl]; exact hs)) (by rw [← hE']; exact hih E' S hr)
          have hj : j < ops.size := by
            rcases Nat.lt_or_ge j ops.size with hlt | hge
            · exact hlt
            · rw [Array.getD_eq_getD_getElem?, Array.getElem?_eq_none (by have := hd.sz; omega)] at hun
              simp at hun
          obtain ⟨g, hg, hgf⟩ := hrest' j hj hne hun
          rcases hfree j g hg with h1 | ⟨h1, h3⟩
          · exact absurd h1 hnr
          · obtain ⟨h3, h2⟩ := h3 jt hjt
            refine ⟨h3, fun hl => ?_⟩
            rw [hfl]
            rcases h2 with h2 | h2
            · exact absurd (hgf.symm.trans hl) h2
            · exact h2
    · simp only [okT, Bool.and_eq_true, if_true, decide_eq_true_eq, Bool.not_eq_true'] at hok
      obtain ⟨⟨⟨⟨hf, hfl⟩, hni⟩, hmid⟩, hrest⟩ := hok
      simp only [headsT, List.mem_singleton] at hk
      subst hk
      split at hmid
      rotate_left
      · cases hmid
      rename_i o it' ho hit'
      rw [hit] at hit'
      cases hit'
      simp only [List.all_eq_true, Bool.or_eq_true, Bool.not_eq_true'] at hmid
      have hilt : k < ops.size := (Array.getElem?_eq_some_iff.1 ho).1
      have hready : k ∈ Region.ready .any ops listed := ready_of ho (hd.un hilt hni) fun e he hb => by
        rcases hmid e (by simpa using he) with h1 | h1
        · rw [hb] at h1; cases h1
        · rw [hd.bit]; exact h1
      refine ⟨hready, ?_⟩
      unfold sOp
      rw [hit]
      subst hf
      refine .inl ⟨hfl, sLoud_mono ?_ (regT_loud h)⟩
      rintro e' S' ⟨E', rfl, hr⟩
      exact ih n _ _ E' S' hrest (hd.set hready) hr
  | .alt a b, sel, hs => by
    simp only [selT] at hs
    split at hs
    rotate_left
    · cases hs
    rename_i sa sb hsa hsb
    simp only [Option.some.injEq] at hs
    subst hs
    have iha := (sTree full K hFin hcov a sa hsa).2
    have ihb := (sTree full K hFin hcov b sb hsb).2
    have both : ∀ (n done : Nat) (listed : Array Bool) (E : Env) (S : Store), okT ops items (masks ops) full a true (n + 1) done = true → okT ops items (masks ops) full b true (n + 1) done = true → AtD ops listed done → regT P (.alt sa sb) E S K → ∀ k ∈ headsT a ++ headsT b, k ∈ Region.ready .any ops listed ∧ sOp P items (flOf full) k (sAny P ops items (flOf full) Fin n (listed.setIfInBounds k true)) E.get S := by
      intro n done listed E S h1 h2 hd h k hk
      rcases List.mem_append.1 hk with hk | hk
      · exact iha n done listed E S h1 hd h.1 k hk
      · exact ihb n done listed E S h2 hd h.2 k hk
    refine ⟨fun n done listed E S hok hd h => ?_, fun n done listed E S hok hd h k hk => ?_⟩
    · cases n with
      | zero => simp [okT] at hok
      | succ n =>
        simp only [okT, Bool.and_eq_true, Bool.false_or, List.all_eq_true, Bool.or_eq_true, List.contains_eq_mem, decide_eq_true_eq, List.any_eq_true] at hok
        obtain ⟨hall, h1, h2⟩ := hok
        have hb := both n done listed E S h1 h2 hd h
        have hne := headsT_ne a h1
        refine ⟨fun h0 => ?_, fun k hk => ?_⟩
        · cases hh : headsT a with
          | nil => exact hne hh
          | cons x l =>
            have := (hb x (by rw [hh]; simp)).1
            rw [h0] at this
            cases this
        · obtain ⟨hk1, o, ho, _⟩ := mem_ready.1 hk
          have hklt := (Array.getElem?_eq_some_iff.1 ho).1
          obtain ⟨g, hg, _⟩ := hcov k hklt
          have hkd : done.testBit k = false := by rw [← hd.bit, un_false hk1]
          rcases hall (k, g) (mem_remT hg hkd) with h3 | ⟨x, hx, h3⟩
          · exact (hb k h3).2
          · have hxr := (hb x hx).1
            exact absurd (masks_spec h3) (ready_not_reach hd.cl hk (un_false (mem_ready.1 hxr).1))
    · simp only [okT, Bool.and_eq_true] at hok
      exact both n done listed E S hok.2.1 hok.2.2 hd h k hk
end
end Go.AL
