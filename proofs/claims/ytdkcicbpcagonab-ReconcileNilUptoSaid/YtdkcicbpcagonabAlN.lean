/- A cell of an object told anew: a nil slice there may be told as an owned slice of no elements. -/
import Derived.Test.YtdkcicbpcagonabAlM
namespace Go.AL
set_option linter.unusedSimpArgs false
set_option linter.unusedVariables false

variable {P : Program} {ρ : Place} {S : Store} {w : World}

/-- What an object holds, told in other words. -/
theorem retell (hi : Inv ρ S w) {id ver : Nat} {t : TypeId} {sz : Nat} {rows rows' : List (List V)} (ho : S[id]? = some ⟨ver, some (.arr t sz rows)⟩) (hlen : rows'.length = rows.length)
    (h : ∀ (i : Nat) (r r' : List V), rows[i]? = some r → rows'[i]? = some r' → r'.length = r.length ∧ ∀ (j : Nat) (v v' : V), r[j]? = some v → r'[j]? = some v' → ∀ u, VR ρ S w false v u → VR ρ S w false v' u) :
    Inv ρ (S.set id ⟨ver, some (.arr t sz rows')⟩) w ∧ Ext ρ S w ρ (S.set id ⟨ver, some (.arr t sz rows')⟩) w := by
  have hlt := (List.getElem?_eq_some_iff.1 ho).1
  have get : ∀ {k : Nat} {o : Obj}, (S.set id ⟨ver, some (.arr t sz rows')⟩)[k]? = some o → (k = id ∧ o = ⟨ver, some (.arr t sz rows')⟩) ∨ (k ≠ id ∧ S[k]? = some o) := by
    intro k o hk
    by_cases hki : id = k
    · subst hki
      rw [List.getElem?_set_self hlt] at hk
      exact .inl ⟨rfl, by cases hk; rfl⟩
    · rw [List.getElem?_set_ne hki] at hk
      exact .inr ⟨fun e => hki e.symm, hk⟩
  have hx : Ext ρ S w ρ (S.set id ⟨ver, some (.arr t sz rows')⟩) w := by
    refine ⟨rfl, ⟨rfl, by first | exact Nat.le_refl _ | exact Nat.zero_le _⟩, rfl, Nat.le_refl _, fun k hk => ⟨⟨hk.1, fun k' o c g' tot' hko hst hr => ?_⟩, rfl⟩, by simp, fun k o o' hko hko' => ?_⟩
    · rcases get hko with ⟨rfl, rfl⟩ | ⟨_, hko⟩
      · exact hk.2 k' _ _ g' tot' ho rfl hr
      · exact hk.2 k' o c g' tot' hko hst hr
    · rcases get hko' with ⟨rfl, rfl⟩ | ⟨_, hko'⟩
      · rw [ho] at hko; cases hko
        exact ⟨Nat.le_refl _, fun _ c hc => by cases hc; exact ⟨_, rfl, ⟨rfl, rfl, hlen.symm⟩, rfl⟩⟩
      · rw [hko] at hko'; cases hko'
        exact ⟨Nat.le_refl _, fun _ c hc => ⟨c, hc, Cont.like_refl c, rfl⟩⟩
  refine ⟨⟨fun k v e s rs hs => ?_, fun i j o p c d q x y ho1 hp hc hd hr hr' => ?_, maps_of hi hx (fun k v rs hs => ?_) (fun k v rs q hs hq => rfl), tab_of hi hx⟩, hx⟩
  · rcases get hs with ⟨rfl, he⟩ | ⟨_, hs⟩
    · cases he
      obtain ⟨h1, h2⟩ := hi.rows k ver t sz rows ho
      have hrow : ∀ (i : Nat) (r' : List V), rows'[i]? = some r' → ∃ r, rows[i]? = some r := fun i r' hr => by
        have := (List.getElem?_eq_some_iff.1 hr).1
        exact ⟨rows[i]'(by omega), List.getElem?_eq_getElem _⟩
      refine ⟨fun i r' hr' => ?_, ?_⟩
      · obtain ⟨r, hr⟩ := hrow i r' hr'
        rw [(h i r r' hr hr').1]
        exact h1 i r hr
      · rcases h2 with ⟨h2, rfl⟩ | ⟨g', tot', cur', a, b, c, d, f, k1⟩
        · exact .inl ⟨h2, List.length_eq_zero_iff.1 (by simpa using hlen)⟩
        · refine .inr ⟨g', tot', cur', a, by omega, c, d, f, fun i r' hr' j v' hv' => ?_⟩
          obtain ⟨r, hr⟩ := hrow i r' hr'
          obtain ⟨e1, e2⟩ := h i r r' hr hr'
          have hj : j < r.length := by have := (List.getElem?_eq_some_iff.1 hv').1; omega
          obtain ⟨u, hu, hv, h3⟩ := k1 i r hr j r[j] (List.getElem?_eq_getElem hj)
          exact ⟨u, hu, (e2 j _ v' (List.getElem?_eq_getElem hj) hv' u hv).ext hx, h3⟩
    · obtain ⟨h1, h2⟩ := hi.rows k v e s rs hs
      refine ⟨h1, ?_⟩
      rcases h2 with h2 | ⟨g', tot', cur', a, b, c, d, f, k1⟩
      · exact .inl h2
      · refine .inr ⟨g', tot', cur', a, b, c, d, f, fun i r hir j y hj => ?_⟩
        obtain ⟨u, hu, hv, h1⟩ := k1 i r hir j y hj
        exact ⟨u, hu, hv.ext hx, h1⟩
  · have e1 : ∃ o' c', S[i]? = some o' ∧ o'.st = some c' := by
      rcases get ho1 with ⟨rfl, rfl⟩ | ⟨_, ho1⟩
      · exact ⟨_, _, ho, rfl⟩
      · exact ⟨_, _, ho1, hc⟩
    have e2 : ∃ o' c', S[j]? = some o' ∧ o'.st = some c' := by
      rcases get hp with ⟨rfl, rfl⟩ | ⟨_, hp⟩
      · exact ⟨_, _, ho, rfl⟩
      · exact ⟨_, _, hp, hd⟩
    obtain ⟨o1, c1, a1, b1⟩ := e1
    obtain ⟨o2, c2, a2, b2⟩ := e2
    exact hi.inj i j o1 o2 c1 c2 q x y a1 a2 b1 b2 hr hr'
  · rcases get hs with ⟨rfl, he⟩ | ⟨_, hs⟩
    · cases he
    · exact ⟨hs, rfl⟩

/-- A call that leaves an object with a nil slice in it: told as an owned one of no elements, behind the store. -/
theorem CallA.ghostCell {f : FuncId} {args : List V} {R0 R : V → Store → Prop} (h : CallA P f args S R0)
    (hR : ∀ r S', R0 r S' → ∃ id ver0 t0 sz0 rows0 i r0 j ver t sz, S'[id]? = some ⟨ver0, some (.arr t0 sz0 rows0)⟩ ∧ rows0[i]? = some r0 ∧ r0[j]? = some .nilSl ∧
      R r ((S' ++ [⟨ver, some (.arr t sz [])⟩] : Store).set id ⟨ver0, some (.arr t0 sz0 (rows0.set i (r0.set j (.msl S'.length ver 0 0))))⟩)) : CallA P f args S R := by
  refine ⟨h.1, fun ρ w us hi hv => (h.2 ρ w us hi hv).mono fun en w' ⟨ρ', S', r, u, h1, h2, h3, h4, h5⟩ => ?_⟩
  obtain ⟨id, ver0, t0, sz0, rows0, i, r0, j, ver, t, sz, a, b, c, k⟩ := hR r S' h5
  obtain ⟨k1, k2⟩ := ghost_obj h3 ver t sz
  have hlt := (List.getElem?_eq_some_iff.1 a).1
  have a' : (S' ++ [⟨ver, some (.arr t sz [])⟩])[id]? = some ⟨ver0, some (.arr t0 sz0 rows0)⟩ := by rw [List.getElem?_append_left hlt]; exact a
  have hi' := (List.getElem?_eq_some_iff.1 b).1
  have hj' := (List.getElem?_eq_some_iff.1 c).1
  obtain ⟨m1, m2⟩ := retell k1 a' (rows' := rows0.set i (r0.set j (.msl S'.length ver 0 0))) (by simp) fun i' r r' hr hr' => by
    by_cases hii : i = i'
    · subst hii
      rw [List.getElem?_set_self hi'] at hr'
      rw [b] at hr; cases hr; cases hr'
      refine ⟨by simp, fun j' v v' hv hv' u hu => ?_⟩
      by_cases hjj : j = j'
      · subst hjj
        rw [List.getElem?_set_self hj'] at hv'
        rw [c] at hv; cases hv; cases hv'
        cases hu
        exact ghost_msl ver t sz
      · rw [List.getElem?_set_ne hjj] at hv'
        rw [hv] at hv'; cases hv'
        exact hu
    · rw [List.getElem?_set_ne hii] at hr'
      rw [hr] at hr'; cases hr'
      exact ⟨rfl, fun j' v v' hv hv' u hu => by rw [hv] at hv'; cases hv'; exact hu⟩
  exact ⟨_, _, r, u, h1, (h2.ext k2).ext m2, m1, (h4.trans k2).trans m2, k⟩
end Go.AL
