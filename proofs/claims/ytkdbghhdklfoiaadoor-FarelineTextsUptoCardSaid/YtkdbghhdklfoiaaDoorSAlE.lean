/- Owned objects: laid anew, written, grown. -/
import Derived.Test.YtkdbghhdklfoiaaDoorSAlI
namespace Go.AL
set_option linter.unusedSectionVars false
variable [Mode]
set_option linter.unusedSimpArgs false
set_option linter.unusedVariables false
section
variable {P : Program} {ρ : Place} {S : Store} {w : World}
def upd (ρ : Place) (id g tot : Nat) : Place := fun k => if k = id then some (g, tot) else ρ k
theorem RR.ext {sz : Nat} {rows : List (List V)} {us : Array Value} {ρ' : Place} {S' : Store} {w' : World} (h : RR ρ S w sz rows us) (hx : Ext ρ S w ρ' S' w') : RR ρ' S' w' sz rows us :=
  ⟨h.1, h.2.1, fun i r hi j y hj => let ⟨x, a, b, c⟩ := h.2.2 i r hi j y hj; ⟨x, a, b.ext hx, c⟩⟩
theorem push_obj (hi : Inv ρ S w) {w' : World} {g tot sz ver : Nat} {t : TypeId} {rows : List (List V)} {cur : Array Value} (hg : g = w.heap.size) (hsz : w'.heap.size = w.heap.size + 1) (hos : w'.os = w.os) (htp : w'.tape = w.tape ∧ w.drawn ≤ w'.drawn) (hout : w'.output = w.output)
    (hold : ∀ k, k < w.heap.size → w'.heap[k]? = w.heap[k]?) (hnew : w'.heap[g]? = some (.cells cur t (0, 0))) (hlen : rows.length ≤ tot) (htot : tot ≤ maxLen) (hcur : cur.size = tot * sz) (hrr : RRH ρ S w sz rows cur) :
    Inv (upd ρ S.length g tot) (S ++ [⟨ver, some (.arr t sz rows)⟩]) w' ∧ Ext ρ S w (upd ρ S.length g tot) (S ++ [⟨ver, some (.arr t sz rows)⟩]) w' := by
  have hx : Ext ρ S w (upd ρ S.length g tot) (S ++ [⟨ver, some (.arr t sz rows)⟩]) w' := by
    refine ⟨hos, ⟨htp.1, by first | exact htp.2 | exact fun _ => htp.2⟩, hout, by omega, fun k hk => ⟨⟨by have := hk.1; omega, fun id o c g' tot' ho hst hr => ?_⟩, hold k hk.1⟩, by simp, fun id o o' ho ho' => ?_⟩
    · by_cases hid : id = S.length
      · subst hid
        simp only [upd, if_true, Option.some.injEq, Prod.mk.injEq] at hr
        have := hk.1
        omega
      · rw [List.getElem?_append_left (by have := (List.getElem?_eq_some_iff.1 ho).1; simp at this; omega)] at ho
        simp only [upd, hid, if_false] at hr
        exact hk.2 id o c g' tot' ho hst hr
    · have hlt := (List.getElem?_eq_some_iff.1 ho).1
      rw [List.getElem?_append_left hlt, ho] at ho'
      cases ho'
      exact ⟨Nat.le_refl _, fun _ c hc => ⟨c, hc, Cont.like_refl c, by simp [upd, Nat.ne_of_lt hlt]⟩⟩
  refine ⟨⟨fun id v e s rs hs => ?_, fun i j o p c d q x y ho hp hc hd hr hr' => ?_, maps_of hi hx (fun id v rs hs => ?_) (fun id v rs q hs hq => ?_), tab_of hi hx⟩, hx⟩
  · by_cases hid : id = S.length
    · subst hid
      rw [List.getElem?_append_right (Nat.le_refl _)] at hs
      simp at hs
      obtain ⟨_, rfl, rfl, rfl⟩ := hs
      exact ⟨hrr.1, .inr ⟨g, tot, cur, by simp [upd], hlen, htot, hnew, hcur, (hrr.ext hx).2⟩⟩
    · rw [List.getElem?_append_left (by have := (List.getElem?_eq_some_iff.1 hs).1; simp at this; omega)] at hs
      obtain ⟨h1, h2⟩ := hi.rows id v e s rs hs
      refine ⟨h1, ?_⟩
      simp only [upd, hid, if_false]
      rcases h2 with h2 | ⟨g', tot', cur', a, b, c, d, f, k⟩
      · exact .inl h2
      · refine .inr ⟨g', tot', cur', a, b, c, ?_, f, fun i r hir j y hj => ?_⟩
        · rw [hold g' (Array.getElem?_eq_some_iff.1 d).1]; exact d
        · obtain ⟨u, hu, hv, h1⟩ := k i r hir j y hj
          exact ⟨u, hu, hv.ext hx, h1⟩
  · have blk : ∀ (i : Nat) (o : Obj) (c : Cont) (q x : Nat), S[i]? = some o → o.st = some c → ρ i = some (q, x) → q < w.heap.size := by
      intro i o c q x ho hc hr
      exact hi.block ho hc hr
    have low : ∀ (i : Nat) (o : Obj), (S ++ [⟨ver, some (.arr t sz rows)⟩])[i]? = some o → i ≠ S.length → S[i]? = some o ∧ i < S.length := by
      intro i o ho hne
      have hlt : i < S.length := by have := (List.getElem?_eq_some_iff.1 ho).1; simp at this; omega
      exact ⟨by rwa [List.getElem?_append_left hlt] at ho, hlt⟩
    by_cases h1 : i = S.length <;> by_cases h2 : j = S.length
    · rw [h1, h2]
    · exfalso
      obtain ⟨hp', _⟩ := low j p hp h2
      simp only [upd, h1, if_true, Option.some.injEq, Prod.mk.injEq] at hr
      simp only [upd, h2, if_false] at hr'
      have := blk j p d q y hp' hd hr'
      omega
    · exfalso
      obtain ⟨ho', _⟩ := low i o ho h1
      simp only [upd, h2, if_true, Option.some.injEq, Prod.mk.injEq] at hr'
      simp only [upd, h1, if_false] at hr
      have := blk i o c q x ho' hc hr
      omega
    · obtain ⟨ho', _⟩ := low i o ho h1
      obtain ⟨hp', _⟩ := low j p hp h2
      simp only [upd, h1, if_false] at hr
      simp only [upd, h2, if_false] at hr'
      exact hi.inj i j o p c d q x y ho' hp' hc hd hr hr'
  · by_cases hid : id = S.length
    · subst hid
      rw [List.getElem?_append_right (Nat.le_refl _)] at hs
      simp at hs
    · rw [List.getElem?_append_left (by have := (List.getElem?_eq_some_iff.1 hs).1; simp at this; omega)] at hs
      exact ⟨hs, by simp [upd, hid]⟩
  · by_cases hid : id = S.length
    · subst hid
      rw [List.getElem?_append_right (Nat.le_refl _)] at hs
      simp at hs
    · rw [List.getElem?_append_left (by have := (List.getElem?_eq_some_iff.1 hs).1; simp at this; omega)] at hs
      exact hold q (hi.block hs rfl hq)
theorem set_obj (hi : Inv ρ S w) {w' : World} {id ver ver' g g' tot tot' sz : Nat} {t : TypeId} {rows rows' : List (List V)} {cur : Array Value} (hs : S[id]? = some ⟨ver, some (.arr t sz rows)⟩) (hr : ρ id = some (g, tot))
    (hg : (g' = g ∧ tot' = tot ∧ (ver' = ver → rows.length = rows'.length)) ∨ (w.heap.size ≤ g' ∧ ver < ver')) (hver : ver ≤ ver') (hsz : w.heap.size ≤ w'.heap.size) (hos : w'.os = w.os) (htp : w'.tape = w.tape ∧ w.drawn ≤ w'.drawn) (hout : w'.output = w.output)
    (hold : ∀ k, k < w.heap.size → k ≠ g → w'.heap[k]? = w.heap[k]?) (hnew : w'.heap[g']? = some (.cells cur t (0, 0))) (hlen : rows'.length ≤ tot') (htot : tot' ≤ maxLen) (hcur : cur.size = tot' * sz)
    (hrr : RRH ρ S w sz rows' cur) :
    Inv (upd ρ id g' tot') (S.set id ⟨ver', some (.arr t sz rows')⟩) w' ∧ Ext ρ S w (upd ρ id g' tot') (S.set id ⟨ver', some (.arr t sz rows')⟩) w' := by
  have hid := (List.getElem?_eq_some_iff.1 hs).1
  have hgo : ∀ k, Unowned ρ S w k → k ≠ g := fun k hk hkg => hk.2 id _ _ g tot hs rfl hr hkg.symm
  have hx : Ext ρ S w (upd ρ id g' tot') (S.set id ⟨ver', some (.arr t sz rows')⟩) w' := by
    refine ⟨hos, ⟨htp.1, by first | exact htp.2 | exact fun _ => htp.2⟩, hout, hsz, fun k hk => ⟨⟨by have := hk.1; omega, fun i o c q x ho hst hri => ?_⟩, hold k hk.1 (hgo k hk)⟩, by simp, fun i o o' ho ho' => ?_⟩
    · by_cases h1 : i = id
      · subst h1
        simp only [upd, if_true, Option.some.injEq, Prod.mk.injEq] at hri
        rcases hg with ⟨rfl, _⟩ | ⟨h2, _⟩
        · have := hgo k hk; omega
        · have := hk.1; omega
      · rw [List.getElem?_set_ne (Ne.symm h1)] at ho
        simp only [upd, h1, if_false] at hri
        exact hk.2 i o c q x ho hst hri
    · by_cases h1 : i = id
      · subst h1
        rw [List.getElem?_set_self hid] at ho'
        rw [hs] at ho
        cases ho
        cases ho'
        refine ⟨hver, fun hv c hc => ?_⟩
        simp only at hv
        simp only [Option.some.injEq] at hc
        subst hc
        rcases hg with ⟨rfl, rfl, hl⟩ | ⟨_, h2⟩
        · exact ⟨_, rfl, ⟨rfl, rfl, hl hv⟩, by simp [upd, hr]⟩
        · omega
      · rw [List.getElem?_set_ne (Ne.symm h1), ho] at ho'
        cases ho'
        exact ⟨Nat.le_refl _, fun _ c hc => ⟨c, hc, Cont.like_refl c, by simp [upd, h1]⟩⟩
  refine ⟨⟨fun i v e s rs hi' => ?_, fun i j o p c d q x y ho hp hc hd hri hrj => ?_, maps_of hi hx (fun i v rs hs' => ?_) (fun i v rs q hs' hq => ?_), tab_of hi hx⟩, hx⟩
  · by_cases h1 : i = id
    · subst h1
      rw [List.getElem?_set_self hid] at hi'
      simp only [Option.some.injEq, Obj.mk.injEq, Cont.arr.injEq] at hi'
      obtain ⟨_, rfl, rfl, rfl⟩ := hi'
      exact ⟨hrr.1, .inr ⟨g', tot', cur, by simp [upd], hlen, htot, hnew, hcur, (hrr.ext hx).2⟩⟩
    · rw [List.getElem?_set_ne (Ne.symm h1)] at hi'
      obtain ⟨h2, h3⟩ := hi.rows i v e s rs hi'
      refine ⟨h2, ?_⟩
      simp only [upd, h1, if_false]
      rcases h3 with h3 | ⟨g2, tot2, cur2, a, b, c, d, f, k⟩
      · exact .inl h3
      · refine .inr ⟨g2, tot2, cur2, a, b, c, ?_, f, fun i r hir j y hj => ?_⟩
        · rw [hold g2 (Array.getElem?_eq_some_iff.1 d).1 (fun hh => h1 (hi.inj i id _ _ _ _ g tot2 tot hi' hs rfl rfl (by rw [← hh]; exact a) hr))]
          exact d
        · obtain ⟨u, hu, hv, h4⟩ := k i r hir j y hj
          exact ⟨u, hu, hv.ext hx, h4⟩
  · have low : ∀ (i : Nat) (o : Obj), (S.set id ⟨ver', some (.arr t sz rows')⟩)[i]? = some o → i ≠ id → S[i]? = some o := fun i o ho hne => by rwa [List.getElem?_set_ne (Ne.symm hne)] at ho
    have blk : ∀ (i : Nat) (o : Obj) (c : Cont) (q x : Nat), S[i]? = some o → o.st = some c → ρ i = some (q, x) → q < w.heap.size := by
      intro i o c q x ho hc hr
      exact hi.block ho hc hr
    have other : ∀ (i : Nat) (o : Obj) (c : Cont) (q x : Nat), S[i]? = some o → o.st = some c → ρ i = some (q, x) → i ≠ id → q ≠ g' := by
      intro i o c q x ho hc hri hne heq
      rcases hg with ⟨rfl, _⟩ | ⟨h2, _⟩
      · exact hne (hi.inj i id o _ c _ q x tot ho hs hc rfl hri (by rw [heq]; exact hr))
      · have := blk i o c q x ho hc hri; omega
    by_cases h1 : i = id <;> by_cases h2 : j = id
    · rw [h1, h2]
    · exfalso
      simp only [upd, h1, if_true, Option.some.injEq, Prod.mk.injEq] at hri
      simp only [upd, h2, if_false] at hrj
      exact other j p d q y (low j p hp h2) hd hrj h2 hri.1.symm
    · exfalso
      simp only [upd, h2, if_true, Option.some.injEq, Prod.mk.injEq] at hrj
      simp only [upd, h1, if_false] at hri
      exact other i o c q x (low i o ho h1) hc hri h1 hrj.1.symm
    · simp only [upd, h1, if_false] at hri
      simp only [upd, h2, if_false] at hrj
      exact hi.inj i j o p c d q x y (low i o ho h1) (low j p hp h2) hc hd hri hrj
  · by_cases h1 : i = id
    · subst h1
      rw [List.getElem?_set_self hid] at hs'
      simp at hs'
    · rw [List.getElem?_set_ne (Ne.symm h1)] at hs'
      exact ⟨hs', by simp [upd, h1]⟩
  · by_cases h1 : i = id
    · subst h1
      rw [List.getElem?_set_self hid] at hs'
      simp at hs'
    · rw [List.getElem?_set_ne (Ne.symm h1)] at hs'
      exact hold q (hi.block hs' rfl hq) (fun hh => h1 (hi.inj i id _ _ _ _ g 0 tot hs' hs rfl rfl (by rw [← hh]; exact hq) hr))
theorem ptr_new {ρ' : Place} {w' : World} {g tot sz ver : Nat} {t : TypeId} {rows : List (List V)} (hr : ρ' S.length = some (g, tot)) : VR ρ' (S ++ [⟨ver, some (.arr t sz rows)⟩]) w' false (.ptr S.length ver 0 0) (.pointer (some ⟨g, 0, none⟩)) :=
  .ptr (by simp) (fun o ho => by rw [List.getElem?_append_right (Nat.le_refl _)] at ho; simp at ho; rw [← ho]; exact Nat.le_refl _)
    (fun e s rs _ => ⟨g, tot, hr, by simp⟩) rfl
theorem msl_new {ρ' : Place} {w' : World} {g tot sz ver n : Nat} {t : TypeId} {rows : List (List V)} (hr : ρ' S.length = some (g, tot)) (hn : n ≤ rows.length) (ht : n ≤ tot) :
    VR ρ' (S ++ [⟨ver, some (.arr t sz rows)⟩]) w' false (.msl S.length ver 0 n) (.slice (some ⟨g, 0, none⟩) n tot) :=
  .msl (by simp) (fun o ho => by rw [List.getElem?_append_right (Nat.le_refl _)] at ho; simp at ho; rw [← ho]; exact Nat.le_refl _)
    (fun e s rs hs => by
      rw [List.getElem?_append_right (Nat.le_refl _)] at hs
      simp at hs
      obtain ⟨_, _, rfl⟩ := hs
      exact ⟨by omega, .inr (.inl ⟨g, tot, tot, hr, by simp, by omega, by omega, by omega⟩)⟩) ⟨_, _, rfl⟩
theorem msl_set {ρ' : Place} {w' : World} {id g tot cap sz ver n : Nat} {t : TypeId} {rows : List (List V)} (hid : id < S.length) (hr : ρ' id = some (g, tot)) (hn : n ≤ rows.length) (ht : n ≤ cap) (hc : cap ≤ tot) :
    VR ρ' (S.set id ⟨ver, some (.arr t sz rows)⟩) w' false (.msl id ver 0 n) (.slice (some ⟨g, 0, none⟩) n cap) :=
  .msl (by simpa using hid) (fun o ho => by rw [List.getElem?_set_self hid] at ho; simp at ho; rw [← ho]; exact Nat.le_refl _)
    (fun e s rs hs => by
      rw [List.getElem?_set_self hid] at hs
      simp at hs
      obtain ⟨_, _, rfl⟩ := hs
      exact ⟨by omega, .inr (.inl ⟨g, tot, cap, hr, by simp, by omega, by omega, by omega⟩)⟩) ⟨_, _, rfl⟩
theorem push_nil (hi : Inv ρ S w) {ver sz : Nat} {t : TypeId} : Inv (fun k => if k = S.length then none else ρ k) (S ++ [⟨ver, some (.arr t sz [])⟩]) w ∧ Ext ρ S w (fun k => if k = S.length then none else ρ k) (S ++ [⟨ver, some (.arr t sz [])⟩]) w := by
  have low : ∀ (i : Nat) (o : Obj), (S ++ [⟨ver, some (.arr t sz [])⟩])[i]? = some o → i ≠ S.length → S[i]? = some o := by
    intro i o ho hne
    have hlt : i < S.length := by have := (List.getElem?_eq_some_iff.1 ho).1; simp at this; omega
    rwa [List.getElem?_append_left hlt] at ho
  have hx : Ext ρ S w (fun k => if k = S.length then none else ρ k) (S ++ [⟨ver, some (.arr t sz [])⟩]) w := by
    refine ⟨rfl, ⟨rfl, by first | exact Nat.le_refl _ | exact Nat.zero_le _ | exact fun _ => Nat.le_refl _⟩, rfl, Nat.le_refl _, fun k hk => ⟨⟨hk.1, fun id o c g' tot' ho hst hr => ?_⟩, rfl⟩, by simp, fun id o o' ho ho' => ?_⟩
    · by_cases hid : id = S.length
      · simp [hid] at hr
      · simp only [hid, if_false] at hr
        exact hk.2 id o c g' tot' (low id o ho hid) hst hr
    · have hlt := (List.getElem?_eq_some_iff.1 ho).1
      rw [List.getElem?_append_left hlt, ho] at ho'
      cases ho'
      exact ⟨Nat.le_refl _, fun _ c hc => ⟨c, hc, Cont.like_refl c, by simp [Nat.ne_of_lt hlt]⟩⟩
  refine ⟨⟨fun id v e s rs hs => ?_, fun i j o p c d q x y ho hp hc hd hr hr' => ?_, maps_of hi hx (fun id v rs hs => ?_) (fun id v rs q hs hq => rfl), tab_of hi hx⟩, hx⟩
  · by_cases hid : id = S.length
    · subst hid
      rw [List.getElem?_append_right (Nat.le_refl _)] at hs
      simp at hs
      obtain ⟨_, rfl, rfl, rfl⟩ := hs
      exact ⟨by simp, .inl ⟨by simp, rfl⟩⟩
    · obtain ⟨h1, h2⟩ := hi.rows id v e s rs (low id _ hs hid)
      refine ⟨h1, ?_⟩
      simp only [hid, if_false]
      rcases h2 with h2 | ⟨g', tot', cur', a, b, c, d, f, k⟩
      · exact .inl h2
      · refine .inr ⟨g', tot', cur', a, b, c, d, f, fun i r hir j y hj => ?_⟩
        obtain ⟨u, hu, hv, h1⟩ := k i r hir j y hj
        exact ⟨u, hu, hv.ext hx, h1⟩
  · by_cases h1 : i = S.length
    · simp [h1] at hr
    · by_cases h2 : j = S.length
      · simp [h2] at hr'
      · simp only [h1, if_false] at hr
        simp only [h2, if_false] at hr'
        exact hi.inj i j o p c d q x y (low i o ho h1) (low j p hp h2) hc hd hr hr'
  · by_cases hid : id = S.length
    · subst hid
      rw [List.getElem?_append_right (Nat.le_refl _)] at hs
      simp at hs
    · exact ⟨low id _ hs hid, by simp [hid]⟩
theorem msl_nil {ρ' : Place} {w' : World} {sz ver : Nat} {t : TypeId} (hr : ρ' S.length = none) : VR ρ' (S ++ [⟨ver, some (.arr t sz [])⟩]) w' false (.msl S.length ver 0 0) (.slice none 0 0) :=
  .msl (by simp) (fun o ho => by rw [List.getElem?_append_right (Nat.le_refl _)] at ho; simp at ho; rw [← ho]; exact Nat.le_refl _)
    (fun e s rs _ => ⟨by omega, .inl ⟨hr, rfl, rfl, rfl⟩⟩) ⟨_, _, rfl⟩
theorem set_nil (hi : Inv ρ S w) {id ver sz : Nat} {t : TypeId} (hs : S[id]? = some ⟨ver, some (.arr t sz [])⟩) (hr : ρ id = none) :
    Inv ρ (S.set id ⟨ver + 1, some (.arr t sz [])⟩) w ∧ Ext ρ S w ρ (S.set id ⟨ver + 1, some (.arr t sz [])⟩) w := by
  have hid := (List.getElem?_eq_some_iff.1 hs).1
  have low : ∀ (i : Nat) (o : Obj), (S.set id ⟨ver + 1, some (.arr t sz [])⟩)[i]? = some o → i ≠ id → S[i]? = some o := fun i o ho hne => by rwa [List.getElem?_set_ne (Ne.symm hne)] at ho
  have hx : Ext ρ S w ρ (S.set id ⟨ver + 1, some (.arr t sz [])⟩) w := by
    refine ⟨rfl, ⟨rfl, by first | exact Nat.le_refl _ | exact Nat.zero_le _ | exact fun _ => Nat.le_refl _⟩, rfl, Nat.le_refl _, fun k hk => ⟨⟨hk.1, fun i o c q x ho hst hri => ?_⟩, rfl⟩, by simp, fun i o o' ho ho' => ?_⟩
    · by_cases h1 : i = id
      · rw [h1, hr] at hri; cases hri
      · exact hk.2 i o c q x (low i o ho h1) hst hri
    · by_cases h1 : i = id
      · subst h1
        rw [List.getElem?_set_self hid] at ho'
        rw [hs] at ho
        cases ho
        cases ho'
        exact ⟨Nat.le_succ _, fun hv => by simp at hv⟩
      · rw [List.getElem?_set_ne (Ne.symm h1), ho] at ho'
        cases ho'
        exact ⟨Nat.le_refl _, fun _ c hc => ⟨c, hc, Cont.like_refl c, rfl⟩⟩
  refine ⟨⟨fun i v e s rs hi' => ?_, fun i j o p c d q x y ho hp hc hd hri hrj => ?_, maps_of hi hx (fun i v rs hs' => ?_) (fun i v rs q hs' hq => rfl), tab_of hi hx⟩, hx⟩
  · by_cases h1 : i = id
    · subst h1
      rw [List.getElem?_set_self hid] at hi'
      simp only [Option.some.injEq, Obj.mk.injEq, Cont.arr.injEq] at hi'
      obtain ⟨_, rfl, rfl, rfl⟩ := hi'
      exact ⟨by simp, .inl ⟨hr, rfl⟩⟩
    · obtain ⟨h2, h3⟩ := hi.rows i v e s rs (low i _ hi' h1)
      refine ⟨h2, ?_⟩
      rcases h3 with h3 | ⟨g2, tot2, cur2, a, b, c, d, f, k⟩
      · exact .inl h3
      · refine .inr ⟨g2, tot2, cur2, a, b, c, d, f, fun i r hir j y hj => ?_⟩
        obtain ⟨u, hu, hv, h4⟩ := k i r hir j y hj
        exact ⟨u, hu, hv.ext hx, h4⟩
  · by_cases h1 : i = id
    · rw [h1, hr] at hri; cases hri
    · by_cases h2 : j = id
      · rw [h2, hr] at hrj; cases hrj
      · exact hi.inj i j o p c d q x y (low i o ho h1) (low j p hp h2) hc hd hri hrj
  · by_cases h1 : i = id
    · subst h1
      rw [List.getElem?_set_self hid] at hs'
      simp at hs'
    · exact ⟨low i _ hs' h1, rfl⟩
theorem msl_set_nil {ρ' : Place} {w' : World} {id sz ver : Nat} {t : TypeId} (hid : id < S.length) (hr : ρ' id = none) : VR ρ' (S.set id ⟨ver, some (.arr t sz [])⟩) w' false (.msl id ver 0 0) (.slice none 0 0) :=
  .msl (by simpa using hid) (fun o ho => by rw [List.getElem?_set_self hid] at ho; simp at ho; rw [← ho]; exact Nat.le_refl _)
    (fun e s rs _ => ⟨by omega, .inl ⟨hr, rfl, rfl, rfl⟩⟩) ⟨_, _, rfl⟩
theorem set_obj0 (hi : Inv ρ S w) {w' : World} {id ver ver' g' tot' sz : Nat} {t : TypeId} {rows rows' : List (List V)} {cur : Array Value} (hs : S[id]? = some ⟨ver, some (.arr t sz rows)⟩) (hr : ρ id = none)
    (hg : w.heap.size ≤ g') (hver : ver < ver') (hsz : w.heap.size ≤ w'.heap.size) (hos : w'.os = w.os) (htp : w'.tape = w.tape ∧ w.drawn ≤ w'.drawn) (hout : w'.output = w.output)
    (hold : ∀ k, k < w.heap.size → w'.heap[k]? = w.heap[k]?) (hnew : w'.heap[g']? = some (.cells cur t (0, 0))) (hlen : rows'.length ≤ tot') (htot : tot' ≤ maxLen) (hcur : cur.size = tot' * sz)
    (hrr : RRH ρ S w sz rows' cur) :
    Inv (upd ρ id g' tot') (S.set id ⟨ver', some (.arr t sz rows')⟩) w' ∧ Ext ρ S w (upd ρ id g' tot') (S.set id ⟨ver', some (.arr t sz rows')⟩) w' := by
  have hid := (List.getElem?_eq_some_iff.1 hs).1
  have low : ∀ (i : Nat) (o : Obj), (S.set id ⟨ver', some (.arr t sz rows')⟩)[i]? = some o → i ≠ id → S[i]? = some o := fun i o ho hne => by rwa [List.getElem?_set_ne (Ne.symm hne)] at ho
  have hx : Ext ρ S w (upd ρ id g' tot') (S.set id ⟨ver', some (.arr t sz rows')⟩) w' := by
    refine ⟨hos, ⟨htp.1, by first | exact htp.2 | exact fun _ => htp.2⟩, hout, hsz, fun k hk => ⟨⟨by have := hk.1; omega, fun i o c q x ho hst hri => ?_⟩, hold k hk.1⟩, by simp, fun i o o' ho ho' => ?_⟩
    · by_cases h1 : i = id
      · subst h1
        simp only [upd, if_true, Option.some.injEq, Prod.mk.injEq] at hri
        have := hk.1; omega
      · simp only [upd, h1, if_false] at hri
        exact hk.2 i o c q x (low i o ho h1) hst hri
    · by_cases h1 : i = id
      · subst h1
        rw [List.getElem?_set_self hid] at ho'
        rw [hs] at ho
        cases ho
        cases ho'
        refine ⟨Nat.le_of_lt hver, fun hv => ?_⟩
        simp only at hv
        omega
      · rw [List.getElem?_set_ne (Ne.symm h1), ho] at ho'
        cases ho'
        exact ⟨Nat.le_refl _, fun _ c hc => ⟨c, hc, Cont.like_refl c, by simp [upd, h1]⟩⟩
  have blk : ∀ (i : Nat) (o : Obj) (c : Cont) (q x : Nat), S[i]? = some o → o.st = some c → ρ i = some (q, x) → q < w.heap.size := by
    intro i o c q x ho hc hr
    exact hi.block ho hc hr
  refine ⟨⟨fun i v e s rs hi' => ?_, fun i j o p c d q x y ho hp hc hd hri hrj => ?_, maps_of hi hx (fun i v rs hs' => ?_) (fun i v rs q hs' hq => ?_), tab_of hi hx⟩, hx⟩
  · by_cases h1 : i = id
    · subst h1
      rw [List.getElem?_set_self hid] at hi'
      simp only [Option.some.injEq, Obj.mk.injEq, Cont.arr.injEq] at hi'
      obtain ⟨_, rfl, rfl, rfl⟩ := hi'
      exact ⟨hrr.1, .inr ⟨g', tot', cur, by simp [upd], hlen, htot, hnew, hcur, (hrr.ext hx).2⟩⟩
    · obtain ⟨h2, h3⟩ := hi.rows i v e s rs (low i _ hi' h1)
      refine ⟨h2, ?_⟩
      simp only [upd, h1, if_false]
      rcases h3 with h3 | ⟨g2, tot2, cur2, a, b, c, d, f, k⟩
      · exact .inl h3
      · refine .inr ⟨g2, tot2, cur2, a, b, c, ?_, f, fun i r hir j y hj => ?_⟩
        · rw [hold g2 (Array.getElem?_eq_some_iff.1 d).1]; exact d
        · obtain ⟨u, hu, hv, h4⟩ := k i r hir j y hj
          exact ⟨u, hu, hv.ext hx, h4⟩
  · by_cases h1 : i = id <;> by_cases h2 : j = id
    · rw [h1, h2]
    · exfalso
      simp only [upd, h1, if_true, Option.some.injEq, Prod.mk.injEq] at hri
      simp only [upd, h2, if_false] at hrj
      have := blk j p d q y (low j p hp h2) hd hrj; omega
    · exfalso
      simp only [upd, h2, if_true, Option.some.injEq, Prod.mk.injEq] at hrj
      simp only [upd, h1, if_false] at hri
      have := blk i o c q x (low i o ho h1) hc hri; omega
    · simp only [upd, h1, if_false] at hri
      simp only [upd, h2, if_false] at hrj
      exact hi.inj i j o p c d q x y (low i o ho h1) (low j p hp h2) hc hd hri hrj
  · by_cases h1 : i = id
    · subst h1
      rw [List.getElem?_set_self hid] at hs'
      simp at hs'
    · exact ⟨low i _ hs' h1, by simp [upd, h1]⟩
  · by_cases h1 : i = id
    · subst h1
      rw [List.getElem?_set_self hid] at hs'
      simp at hs'
    · exact hold q (hi.block (low i _ hs' h1) rfl hq)
theorem push_map (hi : Inv ρ S w) {w' : World} {g ver : Nat} {rows : MapC} (hfree : ∀ i, rows.x ≠ .held i) (hg : g = w.heap.size) (hsz : w'.heap.size = w.heap.size + 1) (hos : w'.os = w.os) (htp : w'.tape = w.tape ∧ w.drawn ≤ w'.drawn) (hout : w'.output = w.output)
    (hold : ∀ k, k < w.heap.size → w'.heap[k]? = w.heap[k]?) (hrr : Ext ρ S w (upd ρ S.length g 0) (S ++ [⟨ver, some (.mp rows)⟩]) w' → HR (upd ρ S.length g 0) (S ++ [⟨ver, some (.mp rows)⟩]) w' S.length rows g) :
    Inv (upd ρ S.length g 0) (S ++ [⟨ver, some (.mp rows)⟩]) w' ∧ Ext ρ S w (upd ρ S.length g 0) (S ++ [⟨ver, some (.mp rows)⟩]) w' := by
  have low : ∀ (i : Nat) (o : Obj), (S ++ [⟨ver, some (.mp rows)⟩])[i]? = some o → i ≠ S.length → S[i]? = some o ∧ i < S.length := by
    intro i o ho hne
    have hlt : i < S.length := by have := (List.getElem?_eq_some_iff.1 ho).1; simp at this; omega
    exact ⟨by rwa [List.getElem?_append_left hlt] at ho, hlt⟩
  have hx : Ext ρ S w (upd ρ S.length g 0) (S ++ [⟨ver, some (.mp rows)⟩]) w' := by
    refine ⟨hos, ⟨htp.1, by first | exact htp.2 | exact fun _ => htp.2⟩, hout, by omega, fun k hk => ⟨⟨by have := hk.1; omega, fun id o c g' tot' ho hst hr => ?_⟩, hold k hk.1⟩, by simp, fun id o o' ho ho' => ?_⟩
    · by_cases hid : id = S.length
      · subst hid
        simp only [upd, if_true, Option.some.injEq, Prod.mk.injEq] at hr
        have := hk.1
        omega
      · simp only [upd, hid, if_false] at hr
        exact hk.2 id o c g' tot' (low id o ho hid).1 hst hr
    · have hlt := (List.getElem?_eq_some_iff.1 ho).1
      rw [List.getElem?_append_left hlt, ho] at ho'
      cases ho'
      exact ⟨Nat.le_refl _, fun _ c hc => ⟨c, hc, Cont.like_refl c, by simp [upd, Nat.ne_of_lt hlt]⟩⟩
  refine ⟨⟨fun id v e s rs hs => ?_, fun i j o p c d q x y ho hp hc hd hr hr' => ?_, fun id v rs hs => ?_, tab_of hi hx⟩, hx⟩
  · by_cases hid : id = S.length
    · subst hid
      rw [List.getElem?_append_right (Nat.le_refl _)] at hs
      simp at hs
    · obtain ⟨h1, h2⟩ := hi.rows id v e s rs (low id _ hs hid).1
      refine ⟨h1, ?_⟩
      simp only [upd, hid, if_false]
      rcases h2 with h2 | ⟨g', tot', cur', a, b, c, d, f, k⟩
      · exact .inl h2
      · refine .inr ⟨g', tot', cur', a, b, c, ?_, f, fun i r hir j y hj => ?_⟩
        · rw [hold g' (Array.getElem?_eq_some_iff.1 d).1]; exact d
        · obtain ⟨u, hu, hv, h1⟩ := k i r hir j y hj
          exact ⟨u, hu, hv.ext hx, h1⟩
  · by_cases h1 : i = S.length <;> by_cases h2 : j = S.length
    · rw [h1, h2]
    · exfalso
      simp only [upd, h1, if_true, Option.some.injEq, Prod.mk.injEq] at hr
      simp only [upd, h2, if_false] at hr'
      have := hi.block (low j p hp h2).1 hd hr'
      omega
    · exfalso
      simp only [upd, h2, if_true, Option.some.injEq, Prod.mk.injEq] at hr'
      simp only [upd, h1, if_false] at hr
      have := hi.block (low i o ho h1).1 hc hr
      omega
    · simp only [upd, h1, if_false] at hr
      simp only [upd, h2, if_false] at hr'
      exact hi.inj i j o p c d q x y (low i o ho h1).1 (low j p hp h2).1 hc hd hr hr'
  · by_cases hid : id = S.length
    · subst hid
      rw [List.getElem?_append_right (Nat.le_refl _)] at hs
      simp at hs
      obtain ⟨_, rfl⟩ := hs
      exact ⟨g, by simp [upd], hrr hx⟩
    · obtain ⟨g', a, b⟩ := hi.maps id v rs (low id _ hs hid).1
      refine ⟨g', by simp only [upd, hid, if_false]; exact a, b.ext hx ?_ fun mid mver kd rows' hm => ?_⟩
      · obtain ⟨_, b⟩ := b.there
        exact hold g' (Array.getElem?_eq_some_iff.1 b).1
      · by_cases hmid : mid = S.length
        · subst hmid
          rw [List.getElem?_append_right (Nat.le_refl _)] at hm
          simp at hm
          obtain ⟨_, rfl⟩ := hm
          exact absurd rfl (hfree _)
        · obtain ⟨h1, h2⟩ := low mid _ hm hmid
          exact ⟨h1, by simp [upd, hmid], fun gm hgm => hold gm (hi.block h1 rfl hgm)⟩
theorem set_map (hi : Inv ρ S w) {w' : World} {id ver g : Nat} {rows rows' : MapC} (hfree : ∀ i, rows'.x ≠ .held i) (hs : S[id]? = some ⟨ver, some (.mp rows)⟩) (hr : ρ id = some (g, 0)) (hsz : w'.heap.size = w.heap.size) (hos : w'.os = w.os) (htp : w'.tape = w.tape ∧ w.drawn ≤ w'.drawn) (hout : w'.output = w.output)
    (hold : ∀ k, k ≠ g → w'.heap[k]? = w.heap[k]?) (hkd : rows.kd = rows'.kd ∧ rows.x.isIt = rows'.x.isIt) (hrr : Ext ρ S w ρ (S.set id ⟨ver, some (.mp rows')⟩) w' → HR ρ (S.set id ⟨ver, some (.mp rows')⟩) w' id rows' g) :
    Inv ρ (S.set id ⟨ver, some (.mp rows')⟩) w' ∧ Ext ρ S w ρ (S.set id ⟨ver, some (.mp rows')⟩) w' := by
  have hid := (List.getElem?_eq_some_iff.1 hs).1
  have low : ∀ (i : Nat) (o : Obj), (S.set id ⟨ver, some (.mp rows')⟩)[i]? = some o → i ≠ id → S[i]? = some o := fun i o ho hne => by rwa [List.getElem?_set_ne (Ne.symm hne)] at ho
  have any : ∀ (i : Nat) (o : Obj) (c : Cont), (S.set id ⟨ver, some (.mp rows')⟩)[i]? = some o → o.st = some c → ∃ o' c', S[i]? = some o' ∧ o'.st = some c' := by
    intro i o c ho hc
    by_cases h1 : i = id
    · subst h1; exact ⟨_, _, hs, rfl⟩
    · exact ⟨o, c, low i o ho h1, hc⟩
  have hgo : ∀ k, Unowned ρ S w k → k ≠ g := fun k hk hkg => hk.2 id _ _ g 0 hs rfl hr hkg.symm
  have hx : Ext ρ S w ρ (S.set id ⟨ver, some (.mp rows')⟩) w' := by
    refine ⟨hos, ⟨htp.1, by first | exact htp.2 | exact fun _ => htp.2⟩, hout, by omega, fun k hk => ⟨⟨by have := hk.1; omega, fun i o c q x ho hst hri => ?_⟩, hold k (hgo k hk)⟩, by simp, fun i o o' ho ho' => ?_⟩
    · obtain ⟨o', c', h1, h2⟩ := any i o c ho hst
      exact hk.2 i o' c' q x h1 h2 hri
    · by_cases h1 : i = id
      · subst h1
        rw [List.getElem?_set_self hid] at ho'
        rw [hs] at ho
        cases ho
        cases ho'
        exact ⟨Nat.le_refl _, fun _ c hc => by cases hc; exact ⟨_, rfl, hkd, rfl⟩⟩
      · rw [List.getElem?_set_ne (Ne.symm h1), ho] at ho'
        cases ho'
        exact ⟨Nat.le_refl _, fun _ c hc => ⟨c, hc, Cont.like_refl c, rfl⟩⟩
  refine ⟨⟨fun i v e s rs hi' => ?_, fun i j o p c d q x y ho hp hc hd hri hrj => ?_, fun i v rs hi' => ?_, tab_of hi hx⟩, hx⟩
  · by_cases h1 : i = id
    · subst h1
      rw [List.getElem?_set_self hid] at hi'
      simp at hi'
    · obtain ⟨h2, h3⟩ := hi.rows i v e s rs (low i _ hi' h1)
      refine ⟨h2, ?_⟩
      rcases h3 with h3 | ⟨g2, tot2, cur2, a, b, c, d, f, k⟩
      · exact .inl h3
      · refine .inr ⟨g2, tot2, cur2, a, b, c, ?_, f, fun i r hir j y hj => ?_⟩
        · rw [hold g2 (fun hh => h1 (hi.inj i id _ _ _ _ g tot2 0 (low i _ hi' h1) hs rfl rfl (by rw [← hh]; exact a) hr))]
          exact d
        · obtain ⟨u, hu, hv, h4⟩ := k i r hir j y hj
          exact ⟨u, hu, hv.ext hx, h4⟩
  · obtain ⟨o', c', h1, h2⟩ := any i o c ho hc
    obtain ⟨p', d', h3, h4⟩ := any j p d hp hd
    exact hi.inj i j o' p' c' d' q x y h1 h3 h2 h4 hri hrj
  · by_cases h1 : i = id
    · subst h1
      rw [List.getElem?_set_self hid] at hi'
      simp only [Option.some.injEq, Obj.mk.injEq, Cont.mp.injEq] at hi'
      obtain ⟨_, rfl⟩ := hi'
      exact ⟨g, hr, hrr hx⟩
    · obtain ⟨g', a, b⟩ := hi.maps i v rs (low i _ hi' h1)
      refine ⟨g', a, b.ext hx (hold g' (fun hh => h1 (hi.inj i id _ _ _ _ g 0 0 (low i _ hi' h1) hs rfl rfl (by rw [← hh]; exact a) hr))) fun mid mver kd rows2 hm => ?_⟩
      by_cases hmid : mid = id
      · subst hmid
        rw [List.getElem?_set_self hid] at hm
        simp only [Option.some.injEq, Obj.mk.injEq, Cont.mp.injEq] at hm
        obtain ⟨_, rfl⟩ := hm
        exact absurd rfl (hfree _)
      · exact ⟨low mid _ hm hmid, rfl, fun gm hgm => hold gm (fun hh => hmid (hi.inj mid id _ _ _ _ g 0 0 (low mid _ hm hmid) hs rfl rfl (by rw [← hh]; exact hgm) hr))⟩
theorem lock_map (hi : Inv ρ S w) {id ver it iver g : Nat} {kd : KD} {rows : List (V × V)} {mi : MapC} {since : Nat} {seen : Array Nat} (hs : S[id]? = some ⟨ver, some (.mp ⟨kd, rows, .free⟩)⟩) (hr : ρ id = some (g, 0))
    {l : List MapEntry} {ce : MapEntry} (hit : S[it]? = some ⟨iver, some (.mp mi)⟩) (hmi : mi.x = .iter (some (id, ver)) none) (hin : ∀ gi, ρ it = some (gi, 0) → w.heap[gi]? = some (.mapIter (some g) since seen since)) (hkv : ∀ p ∈ mi.rows, isKV mi.kd p.1 = true) (her : ER ρ S w mi.rows l) (hl : LinkOk ρ w none l ce id g since seen) :
    Inv ρ (S.set id ⟨ver, some (.mp ⟨kd, rows, .held it⟩)⟩) w ∧ Ext ρ S w ρ (S.set id ⟨ver, some (.mp ⟨kd, rows, .held it⟩)⟩) w := by
  have hid := (List.getElem?_eq_some_iff.1 hs).1
  have hne : it ≠ id := by
    rintro rfl
    rw [hs] at hit
    simp only [Option.some.injEq, Obj.mk.injEq, Cont.mp.injEq] at hit
    obtain ⟨_, rfl⟩ := hit
    cases hmi
  have low : ∀ (i : Nat) (o : Obj), (S.set id ⟨ver, some (.mp ⟨kd, rows, .held it⟩)⟩)[i]? = some o → i ≠ id → S[i]? = some o := fun i o ho hne => by rwa [List.getElem?_set_ne (Ne.symm hne)] at ho
  have any : ∀ (i : Nat) (o : Obj) (c : Cont), (S.set id ⟨ver, some (.mp ⟨kd, rows, .held it⟩)⟩)[i]? = some o → o.st = some c → ∃ o' c', S[i]? = some o' ∧ o'.st = some c' := by
    intro i o c ho hc
    by_cases h1 : i = id
    · subst h1; exact ⟨_, _, hs, rfl⟩
    · exact ⟨o, c, low i o ho h1, hc⟩
  have hx : Ext ρ S w ρ (S.set id ⟨ver, some (.mp ⟨kd, rows, .held it⟩)⟩) w := by
    refine ⟨rfl, ⟨rfl, by first | exact Nat.le_refl _ | exact Nat.zero_le _ | exact fun _ => Nat.le_refl _⟩, rfl, Nat.le_refl _, fun k hk => ⟨⟨hk.1, fun i o c q x ho hst hri => ?_⟩, rfl⟩, by simp, fun i o o' ho ho' => ?_⟩
    · obtain ⟨o', c', h1, h2⟩ := any i o c ho hst
      exact hk.2 i o' c' q x h1 h2 hri
    · by_cases h1 : i = id
      · subst h1
        rw [List.getElem?_set_self hid] at ho'
        rw [hs] at ho
        cases ho
        cases ho'
        exact ⟨Nat.le_refl _, fun _ c hc => by cases hc; exact ⟨_, rfl, ⟨rfl, rfl⟩, rfl⟩⟩
      · rw [List.getElem?_set_ne (Ne.symm h1), ho] at ho'
        cases ho'
        exact ⟨Nat.le_refl _, fun _ c hc => ⟨c, hc, Cont.like_refl c, rfl⟩⟩
  refine ⟨⟨fun i v e s rs hi' => ?_, fun i j o p c d q x y ho hp hc hd hri hrj => ?_, fun i v rs hi' => ?_, tab_of hi hx⟩, hx⟩
  · by_cases h1 : i = id
    · subst h1
      rw [List.getElem?_set_self hid] at hi'
      simp at hi'
    · obtain ⟨h2, h3⟩ := hi.rows i v e s rs (low i _ hi' h1)
      refine ⟨h2, ?_⟩
      rcases h3 with h3 | ⟨g2, tot2, cur2, a, b, c, d, f, k⟩
      · exact .inl h3
      · refine .inr ⟨g2, tot2, cur2, a, b, c, d, f, fun i r hir j y hj => ?_⟩
        obtain ⟨u, hu, hv, h4⟩ := k i r hir j y hj
        exact ⟨u, hu, hv.ext hx, h4⟩
  · obtain ⟨o', c', h1, h2⟩ := any i o c ho hc
    obtain ⟨p', d', h3, h4⟩ := any j p d hp hd
    exact hi.inj i j o' p' c' d' q x y h1 h3 h2 h4 hri hrj
  · by_cases h1 : i = id
    · subst h1
      rw [List.getElem?_set_self hid] at hi'
      simp only [Option.some.injEq, Obj.mk.injEq, Cont.mp.injEq] at hi'
      obtain ⟨rfl, rfl⟩ := hi'
      obtain ⟨g', a, b⟩ := hi.maps _ _ _ hs
      obtain ⟨es, ck, b1, b2, b3⟩ := b.map rfl
      exact ⟨g', a, es, ck, b1, b2.ext hx, b3⟩
    · obtain ⟨g', a, b⟩ := hi.maps i v rs (low i _ hi' h1)
      by_cases h2 : i = it
      · subst h2
        have hi2 := low i _ hi' h1
        rw [hit] at hi2
        simp only [Option.some.injEq, Obj.mk.injEq, Cont.mp.injEq] at hi2
        obtain ⟨_, rfl⟩ := hi2
        refine ⟨g', a, ?_⟩
        unfold HR
        rw [hmi]
        exact ⟨hkv, l, ce, her.ext hx, fun p hp => (by cases hp), g, since, seen, hin g' a, fun kd2 rows2 _ => hl⟩
      · refine ⟨g', a, b.ext hx rfl fun mid mver kd2 rows2 hm => ?_⟩
        by_cases hmid : mid = id
        · subst hmid
          rw [List.getElem?_set_self hid] at hm
          simp only [Option.some.injEq, Obj.mk.injEq, Cont.mp.injEq, MapC.mk.injEq, MX.held.injEq] at hm
          exact absurd hm.2.2.2.symm h2
        · exact ⟨low mid _ hm hmid, rfl, fun _ _ => rfl⟩
end
end Go.AL
