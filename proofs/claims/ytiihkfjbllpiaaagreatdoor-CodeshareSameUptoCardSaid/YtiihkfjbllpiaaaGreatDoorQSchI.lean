/- Timetables without violations, plainly. Shares without violations, plainly. -/
import Derived.Test.YtiihkfjbllpiaaaGreatDoorQSchR
namespace Go.Proofs.YtiihkfjbllpiaaaGreatDoor
open Go Go.AL
set_option linter.unusedSectionVars false
variable [Go.AL.Mode] [Go.AL.LooseM]
set_option linter.unusedSimpArgs false
set_option linter.unusedVariables false

/-! ### Legs that go on -/
def Goes (L : List Lg) : Prop := ∀ (i : Nat) (l : Lg), L[i]? = some l → folF L i l = true
theorem goes_next {L : List Lg} (h : Goes L) {i : Nat} {a b : Lg} (ha : L[i]? = some a) (hb : L[i + 1]? = some b) : b.f = a.t := by
  have := h (i + 1) b hb
  rw [folF_succ (by omega) (l0 := a) (by simpa using ha)] at this
  rw [Bool.and_eq_true, decide_eq_true_eq] at this
  exact this.1
theorem goes_back {L : List Lg} (h : Goes L) {i j : Nat} {a b : Lg} (ha : L[i]? = some a) (hb : L[j]? = some b) (hij : j ≤ i) : b.f ≠ a.t := by
  have key : ((L.take (i + 1)).any fun x => decide (x.f = a.t)) = false := by
    have h1 := h i a ha
    cases hi : i with
    | zero =>
      subst hi
      rw [folF_zero (by omega)] at h1
      simpa using h1
    | succ k =>
      subst hi
      have hlt := (List.getElem?_eq_some_iff.1 ha).1
      rw [folF_succ (by omega) (l0 := L[k]'(by omega)) (by simp)] at h1
      rw [Bool.and_eq_true] at h1
      simpa using h1.2
  intro he
  rw [List.any_eq_false] at key
  have hm : b ∈ L.take (i + 1) := List.mem_of_getElem? (i := j) (by rw [List.getElem?_take, if_pos (by omega)]; exact hb)
  exact key b hm (by simp [he])
theorem goes_from {L : List Lg} (h : Goes L) {i j : Nat} {a b : Lg} (ha : L[i]? = some a) (hb : L[j]? = some b) (he : a.f = b.f) : i = j := by
  have one : ∀ {i j : Nat} {a b : Lg}, L[i]? = some a → L[j]? = some b → a.f = b.f → ¬ i < j := by
    intro i j a b ha hb he hlt
    have hjl := (List.getElem?_eq_some_iff.1 hb).1
    have hc : L[j - 1]? = some (L[j - 1]'(by omega)) := List.getElem?_eq_getElem _
    have h1 := goes_next h hc (b := b) (by rw [show j - 1 + 1 = j by omega]; exact hb)
    exact goes_back h hc ha (by omega) (by rw [he, h1])
  have h1 := one ha hb he
  have h2 := one hb ha he.symm
  omega
theorem goes_to {L : List Lg} (h : Goes L) {i j : Nat} {a b : Lg} (ha : L[i]? = some a) (hb : L[j]? = some b) (he : a.t = b.t) : i = j := by
  have one : ∀ {i j : Nat} {a b : Lg}, L[i]? = some a → L[j]? = some b → a.t = b.t → ¬ i < j := by
    intro i j a b ha hb he hlt
    have hjl := (List.getElem?_eq_some_iff.1 hb).1
    have hc : L[i + 1]? = some (L[i + 1]'(by omega)) := List.getElem?_eq_getElem _
    have h1 := goes_next h ha hc
    exact goes_back h hb hc (by omega) (by rw [h1, he])
  have h1 := one ha hb he
  have h2 := one hb ha he.symm
  omega

/-! ### A flight without violations -/
structure FlOk (p : Pls) (x : Fl) : Prop where
  car : carF x.c = true
  pd : pdF x.p = 0
  few : x.legs.length ≤ 6
  some_ : 0 < x.legs.length
  goes : Goes x.legs
theorem flOk {p : Pls} {x : Fl} {T : Int → Txt} (h : flErr p x T = []) : FlOk p x := by
  unfold flErr at h
  split at h
  · simp at h
  rename_i hL
  have hh : hdErr x ++ legsErr p x.legs x.legs.length = [] := by
    split at h
    · assumption
    · exact h
  obtain ⟨h1, h2⟩ := List.append_eq_nil_iff.1 hh
  unfold hdErr at h1
  obtain ⟨h3, h4⟩ := List.append_eq_nil_iff.1 h1
  unfold hd2 at h3
  obtain ⟨h5, h6⟩ := List.append_eq_nil_iff.1 h3
  unfold hd1 at h5
  refine ⟨?_, ?_, by omega, by omega, ?_⟩
  · cases hc : carF x.c with
    | true => rfl
    | false => simp [hc] at h5
  · by_cases hc : pdF x.p = 0
    · exact hc
    · simp [hc] at h4
  · have all : ∀ k, k ≤ x.legs.length → ∀ i l, i < k → x.legs[i]? = some l → legsErr p x.legs k = [] → folF x.legs i l = true := by
      intro k
      induction k with
      | zero => intro _ i l hi; omega
      | succ k ih =>
        intro hk i l hi hl he
        rw [legsErr] at he
        obtain ⟨e1, e2⟩ := List.append_eq_nil_iff.1 he
        by_cases hik : i = k
        · subst hik
          rw [hl] at e2
          have e3 : legErr p x.legs i l = [] := by simpa using e2
          unfold legErr at e3
          cases hf : folF x.legs i l with
          | true => rfl
          | false => simp [hf] at e3
        · exact ih (by omega) i l (by omega) hl e1
    intro i l hl
    exact all x.legs.length (Nat.le_refl _) i l (List.getElem?_eq_some_iff.1 hl).1 hl h2
/-- A timetable without violations. -/
structure TtOk (p : Pls) (l : List Fl) : Prop where
  fl : ∀ x ∈ l, FlOk p x
  tw : ∀ (i j : Nat) (x y : Fl), i < j → l[i]? = some x → l[j]? = some y → x.c = y.c → x.n = y.n → meetF x.p y.p = false
theorem has_days {q : Pd} {d : Int} (h : hasF q d = true) : d ∈ daysF q := by
  unfold hasF at h
  rw [Bool.and_eq_true, decide_eq_true_eq] at h
  obtain ⟨⟨h1, h2, h3⟩, h4⟩ := h
  unfold daysF
  rw [if_pos h1, List.mem_filter]
  refine ⟨List.mem_map.2 ⟨(d - q.f).toNat, List.mem_range.2 (by omega), by omega⟩, h4⟩
theorem days_has {q : Pd} {d : Int} (h : d ∈ daysF q) : hasF q d = true := by
  unfold daysF at h
  split at h
  · rename_i h1
    rw [List.mem_filter] at h
    obtain ⟨h2, h3⟩ := h
    obtain ⟨k, h4, rfl⟩ := List.mem_map.1 h2
    rw [List.mem_range] at h4
    unfold hasF
    rw [h3, Bool.and_true, decide_eq_true_eq]
    exact ⟨h1, by omega, by omega⟩
  · cases h
theorem meet_day {a b : Pd} {d : Int} (ha : hasF a d = true) (hb : hasF b d = true) : meetF a b = true := by
  unfold meetF
  rw [List.any_eq_true]
  exact ⟨d, has_days ha, hb⟩
theorem tt_on {p : Pls} {l : List Fl} (h : TtOk p l) {x : Fl} {d : Int} (hx : x ∈ l) (hd : hasF x.p d = true) : onL l x.c x.n d = some x := by
  have hs : (onL l x.c x.n d).isSome = true := by
    rw [onL_eq, List.find?_isSome]
    exact ⟨x, hx, by simp [onq, hd]⟩
  obtain ⟨y, hy⟩ := Option.isSome_iff_exists.1 hs
  obtain ⟨h1, h2, h3⟩ := onL_on hy
  obtain ⟨i, hi⟩ := List.getElem?_of_mem hx
  obtain ⟨j, hj⟩ := List.getElem?_of_mem (onL_mem hy)
  rcases Nat.lt_trichotomy i j with hlt | heq | hlt
  · have := h.tw i j x y hlt hi hj h1.symm h2.symm
    rw [meet_day hd h3] at this
    cases this
  · subst heq
    rw [hi] at hj
    cases hj
    exact hy
  · have := h.tw j i y x hlt hj hi h1 h2
    rw [meet_day h3 hd] at this
    cases this

/-! ### Segments of such a flight -/
theorem segs_mem {L : List Dt} {s : Sg} : s ∈ segsL L ↔ ∃ (i k : Nat) (a b : Dt), i ≤ k ∧ L[i]? = some a ∧ L[k]? = some b ∧ s = segOf a b := by
  induction L with
  | nil => simp [segsL]
  | cons a L ih =>
    rw [segsL, List.mem_append, ih]
    constructor
    · rintro (h | ⟨i, k, a', b', h1, h2, h3, h4⟩)
      · obtain ⟨b, hb, rfl⟩ := List.mem_map.1 h
        obtain ⟨k, hk⟩ := List.getElem?_of_mem hb
        exact ⟨0, k, a, b, Nat.zero_le _, rfl, hk, rfl⟩
      · exact ⟨i + 1, k + 1, a', b', by omega, by simpa using h2, by simpa using h3, h4⟩
    · rintro ⟨i, k, a', b', h1, h2, h3, rfl⟩
      cases i with
      | zero =>
        simp only [List.getElem?_cons_zero, Option.some.injEq] at h2
        subst h2
        exact .inl (List.mem_map_of_mem (List.mem_of_getElem? h3))
      | succ i =>
        obtain ⟨k, rfl⟩ : ∃ j, k = j + 1 := ⟨k - 1, by omega⟩
        exact .inr ⟨i, k, a', b', by omega, by simpa using h2, by simpa using h3, rfl⟩
theorem legs_at {p : Pls} {x : Fl} {day : Int} {i : Nat} {a : Dt} (h : (legsF p x day)[i]? = some a) : ∃ l, x.legs[i]? = some l ∧ a = datF p x day l := by
  unfold legsF at h
  rw [List.getElem?_map] at h
  cases hc : x.legs[i]? with
  | none => rw [hc] at h; cases h
  | some l => rw [hc] at h; cases h; exact ⟨l, rfl, rfl⟩
theorem segs_nums {p : Pls} {x : Fl} {day : Int} {s : Sg} (hs : s ∈ segsL (legsF p x day)) : s.c = x.c ∧ s.n = x.n ∧ s.day = day := by
  obtain ⟨i, k, a, b, _, ha, hb, rfl⟩ := segs_mem.1 hs
  obtain ⟨a, ka, rfl⟩ := legs_at ha
  exact ⟨rfl, rfl, rfl⟩
/-- What a segment that is found says. -/
theorem segF_ok {p : Pls} {l : List Fl} {c : Txt} {n day : Int} {f t : Txt} (h : (segF p l c n day f t).2 = 0) :
    ∃ x, onL l c n day = some x ∧ (segF p l c n day f t).1 ∈ segsL (legsF p x day) ∧ (segF p l c n day f t).1.f = f ∧ (segF p l c n day f t).1.t = t ∧
      (segF p l c n day f t).1.c = c ∧ (segF p l c n day f t).1.n = n ∧ (segF p l c n day f t).1.day = day := by
  unfold segF at h ⊢
  cases ho : onL l c n day with
  | none => rw [ho] at h; simp at h
  | some x =>
    rw [ho] at h
    simp only at h ⊢
    cases hf : (segsL (legsF p x day)).find? fun s => decide (s.f = f) && decide (s.t = t) with
    | none => rw [hf] at h; simp at h
    | some s =>
      have h1 := List.find?_some hf
      rw [Bool.and_eq_true, decide_eq_true_eq, decide_eq_true_eq] at h1
      have hm := List.mem_of_find?_eq_some hf
      obtain ⟨n1, n2, n3⟩ := segs_nums hm
      obtain ⟨o1, o2, o3⟩ := onL_on ho
      exact ⟨x, rfl, hm, h1.1, h1.2, by simp only; rw [n1, o1], by simp only; rw [n2, o2], n3⟩
theorem segF_bad {p : Pls} {l : List Fl} {c : Txt} {n day : Int} {f t : Txt} (h : (segF p l c n day f t).2 ≠ 0) : (segF p l c n day f t).1 = zSg := by
  unfold segF at h ⊢
  cases ho : onL l c n day with
  | none => rfl
  | some x =>
    rw [ho] at h
    simp only at h ⊢
    cases hf : (segsL (legsF p x day)).find? fun s => decide (s.f = f) && decide (s.t = t) with
    | none => rfl
    | some s => rw [hf] at h; simp at h
theorem cut_any {f t : Txt} {a : Dt} {l : List Dt} {k : Nat} {b : Dt} (hf : a.f = f) (hk : (a :: l)[k]? = some b) (ht : b.t = t) (h2 : ∀ (j : Nat) (x : Dt), j < k → (a :: l)[j]? = some x → x.t ≠ t) : cutF f t (a :: l) = some ((a :: l).take (k + 1)) := by
  have ha : (a :: l).any (fun x => decide (x.t = t)) = true := List.any_eq_true.2 ⟨b, List.mem_of_getElem? hk, by simp [ht]⟩
  have hlt := (List.getElem?_eq_some_iff.1 hk).1
  have hx : (a :: l).findIdx (fun x => decide (x.t = t)) = k := by
    rw [List.findIdx_eq hlt]
    refine ⟨by rw [(List.getElem?_eq_some_iff.1 hk).2]; simp [ht], fun j hj => ?_⟩
    exact dF (h2 j _ hj (List.getElem?_eq_getElem (by omega)))
  rw [cutF, if_pos hf, if_pos ha, hx]
theorem cut_at {f t : Txt} {b : Dt} : ∀ {L : List Dt} {i k : Nat} {a : Dt}, L[i]? = some a → L[k]? = some b → i ≤ k → a.f = f → b.t = t → (∀ (j : Nat) (x : Dt), j < i → L[j]? = some x → x.f ≠ f) → (∀ (j : Nat) (x : Dt), i ≤ j → j < k → L[j]? = some x → x.t ≠ t) →
    cutF f t L = some ((L.drop i).take (k - i + 1))
  | [], i, k, a, ha, hb, hik, hf, ht, h1, h2 => by simp at ha
  | c :: L, 0, k, a, ha, hb, hik, hf, ht, h1, h2 => by
    simp only [List.getElem?_cons_zero, Option.some.injEq] at ha
    subst ha
    rw [List.drop_zero, Nat.sub_zero]
    exact cut_any hf hb ht (fun j x hj hx => h2 j x (Nat.zero_le _) hj hx)
  | c :: L, i + 1, 0, a, ha, hb, hik, hf, ht, h1, h2 => by omega
  | c :: L, i + 1, k + 1, a, ha, hb, hik, hf, ht, h1, h2 => by
    have hc : c.f ≠ f := h1 0 c (by omega) rfl
    rw [cutF, if_neg hc, List.drop_succ_cons, show k + 1 - (i + 1) = k - i by omega]
    exact cut_at (by simpa using ha) (by simpa using hb) (by omega) hf ht (fun j x hj hx => h1 (j + 1) x (by omega) (by simpa using hx)) (fun j x h3 h4 hx => h2 (j + 1) x (by omega) (by omega) (by simpa using hx))
theorem path_of {p : Pls} {x : Fl} (h : FlOk p x) {s : Sg} (hd : hasF x.p s.day = true) (hs : s ∈ segsL (legsF p x s.day)) :
    (pathF p x s).2 = 0 ∧ (pathF p x s).1 ≠ [] ∧ ∀ a ∈ (pathF p x s).1, a.c = x.c ∧ a.n = x.n ∧ a.day = s.day := by
  obtain ⟨n1, n2, _⟩ := segs_nums hs
  obtain ⟨i, k, a, b, hik, ha, hb, he⟩ := segs_mem.1 hs
  obtain ⟨la, ka, ea⟩ := legs_at ha
  obtain ⟨lb, kb, eb⟩ := legs_at hb
  have fa : a.f = s.f := by rw [he]; rfl
  have tb : b.t = s.t := by rw [he]; rfl
  have hcut := cut_at ha hb hik fa tb (fun j y hj hy hf => by
    obtain ⟨ly, ky, ey⟩ := legs_at hy
    subst ea ey
    have := goes_from h.goes ky ka (by simp only [datF] at hf fa; rw [hf, fa])
    omega) (fun j y h1 h2 hy hf => by
    obtain ⟨ly, ky, ey⟩ := legs_at hy
    subst eb ey
    have := goes_to h.goes ky kb (by simp only [datF] at hf tb; rw [hf, tb])
    omega)
  have hkl := (List.getElem?_eq_some_iff.1 hb).1
  have hm1 : (((legsF p x s.day).drop i).take (k - i + 1)).head? = some a := by
    rw [List.head?_take, if_neg (by omega), List.head?_drop]
    exact ha
  have hm2 : (((legsF p x s.day).drop i).take (k - i + 1)).getLast? = some b := by
    rw [List.getLast?_eq_getElem?, List.length_take, List.length_drop, List.getElem?_take, if_pos (by omega), List.getElem?_drop, show i + (min (k - i + 1) ((legsF p x s.day).length - i) - 1) = k by omega]
    exact hb
  have hp : pathF p x s = ((((legsF p x s.day).drop i).take (k - i + 1)).map idOf, 0) := by
    unfold pathF
    rw [if_neg (by simp [n1, n2]), if_neg (by simp [hd]), hcut]
    simp only
    rw [hm1, hm2, if_pos]
    rw [he]
    exact ⟨rfl, rfl⟩
  rw [hp]
  refine ⟨rfl, ?_, fun d hd2 => ?_⟩
  · intro h0
    have := congrArg List.length h0
    simp only [List.length_map, List.length_take, List.length_drop, List.length_nil] at this
    omega
  · obtain ⟨e, he2, rfl⟩ := List.mem_map.1 hd2
    obtain ⟨j, hj⟩ := List.getElem?_of_mem (List.mem_of_mem_drop (List.mem_of_mem_take he2))
    obtain ⟨le, _, rfl⟩ := legs_at hj
    exact ⟨rfl, rfl, rfl⟩

/-! ### Shares -/
def ShOk (l : List Fl) (sh : List Sr) : Prop := ∀ (i : Nat) (x : Sr), sh[i]? = some x → shErr l (sh.take i) x = []
theorem share_mem {sh : List Sr} {c : Txt} {n day : Int} {f t : Txt} {x : Sr} (h : shareF sh c n day f t = some x) : x ∈ sh ∧ x.c = c ∧ x.n = n ∧ x.f = f ∧ x.t = t ∧ hasF x.p day = true := by
  have h1 := List.find?_some h
  simp only [fitsF, Bool.and_eq_true, decide_eq_true_eq] at h1
  exact ⟨List.mem_of_find?_eq_some h, h1.1, h1.2.1, h1.2.2.1, h1.2.2.2.1, h1.2.2.2.2⟩
theorem sh_none {l : List Fl} {sh : List Sr} (h : ShOk l sh) {z : Sr} (hz : z ∈ sh) {day : Int} (hd : hasF z.p day = true) : onL l z.c z.n day = none := by
  obtain ⟨i, hi⟩ := List.getElem?_of_mem hz
  have h1 := h i z hi
  unfold shErr at h1
  simp only [List.append_eq_nil_iff] at h1
  obtain ⟨_, _, _, h2⟩ := h1
  have hp : pdF z.p = 0 := by
    unfold hasF at hd
    rw [Bool.and_eq_true, decide_eq_true_eq] at hd
    exact hd.1.1
  rw [if_neg (by simp [hp])] at h2
  simp only [List.append_eq_nil_iff] at h2
  obtain ⟨_, _, h3⟩ := h2
  have h4 : twiceF l (sh.take i) z = false := by
    cases ht : twiceF l (sh.take i) z with
    | false => rfl
    | true => simp [ht] at h3
  unfold twiceF at h4
  rw [List.any_eq_false] at h4
  have h5 := h4 day (has_days hd)
  cases ho : onL l z.c z.n day with
  | none => rfl
  | some y => simp [ho] at h5
/-- What a flight that is operated says to no share. -/
theorem sh_free {l : List Fl} {sh : List Sr} (h : ShOk l sh) {c : Txt} {n day : Int} {f t : Txt} (ho : (onL l c n day).isSome = true) : shareF sh c n day f t = none := by
  cases hs : shareF sh c n day f t with
  | none => rfl
  | some z =>
    obtain ⟨h1, h2, h3, _, _, h6⟩ := share_mem hs
    have := sh_none h h1 h6
    rw [h2, h3] at this
    rw [this] at ho
    cases ho
/-- The segment that is operated covers its own legs. -/
theorem cov_op {p : Pls} {l : List Fl} {sh : List Sr} (ht : TtOk p l) (h : ShOk l sh) {o : Sg} {x : Fl} (ho : onL l o.c o.n o.day = some x) (hs : o ∈ segsL (legsF p x o.day)) :
    oprF sh o = o ∧ covF p l sh o = pathF p x o ∧ (pathF p x o).2 = 0 ∧ (pathF p x o).1 ≠ [] ∧ ∀ a ∈ (pathF p x o).1, a.c = o.c ∧ a.n = o.n ∧ a.day = o.day := by
  have h1 : oprF sh o = o := by unfold oprF; rw [sh_free h (by rw [ho]; rfl)]
  obtain ⟨n1, n2, n3⟩ := onL_on ho
  obtain ⟨k1, k2, k3⟩ := path_of (ht.fl x (onL_mem ho)) n3 hs
  refine ⟨h1, ?_, k1, k2, fun a ha => ?_⟩
  · unfold covF
    rw [h1, ho]
  · obtain ⟨j1, j2, j3⟩ := k3 a ha
    exact ⟨by rw [j1, n1], by rw [j2, n2], j3⟩
theorem sold_cov {p : Pls} {l : List Fl} {sh : List Sr} {day : Int} (ht : TtOk p l) (h : ShOk l sh) {s : Sg} (hs : s ∈ soldF p l sh day) :
    (covF p l sh s).2 = 0 ∧ covF p l sh (oprF sh s) = covF p l sh s ∧ (covF p l sh s).1 ≠ [] ∧ ∀ a ∈ (covF p l sh s).1, a.c = (oprF sh s).c ∧ a.n = (oprF sh s).n ∧ a.day = day := by
  unfold soldF at hs
  rw [List.mem_append] at hs
  rcases hs with hs | hs
  · obtain ⟨x, hx, h1⟩ := List.mem_flatMap.1 hs
    cases hd : hasF x.p day with
    | false => simp [hd] at h1
    | true =>
      rw [hd, if_pos rfl] at h1
      obtain ⟨n1, n2, n3⟩ := segs_nums h1
      have ho : onL l s.c s.n s.day = some x := by rw [n1, n2, n3]; exact tt_on ht hx hd
      obtain ⟨k1, k2, k3, k4, k5⟩ := cov_op (sh := sh) ht h ho (by rw [n3]; exact h1)
      rw [k1]
      refine ⟨by rw [k2]; exact k3, rfl, by rw [k2]; exact k4, fun a ha => ?_⟩
      rw [k2] at ha
      obtain ⟨j1, j2, j3⟩ := k5 a ha
      exact ⟨j1, j2, by rw [j3, n3]⟩
  · obtain ⟨x, hx, h1⟩ := List.mem_flatMap.1 hs
    cases hd : hasF x.p day with
    | false => simp [hd] at h1
    | true =>
      rw [hd, if_pos rfl] at h1
      by_cases hz : (fndF p l sh x.c x.n day x.f x.t).2 = 0
      case neg => rw [if_neg hz] at h1; cases h1
      rw [if_pos hz, List.mem_singleton] at h1
      obtain ⟨y, hy⟩ : ∃ y, shareF sh x.c x.n day x.f x.t = some y := by
        have : (shareF sh x.c x.n day x.f x.t).isSome = true := by
          unfold shareF
          rw [List.find?_isSome]
          exact ⟨x, hx, by simp [fitsF, hd]⟩
        exact Option.isSome_iff_exists.1 this
      unfold fndF at h1 hz
      rw [hy] at h1 hz
      simp only at h1 hz
      have hz2 : (segF p l y.oc y.oas day x.f x.t).2 = 0 := by
        by_cases h0 : (segF p l y.oc y.oas day x.f x.t).2 = 0
        · exact h0
        · rw [if_neg h0] at hz; exact absurd hz h0
      rw [if_pos hz2] at h1
      obtain ⟨g, h2, h3, h4, h5, h6, h7, h8⟩ := segF_ok hz2
      have hop : oprF sh s = (segF p l y.oc y.oas day x.f x.t).1 := by
        unfold oprF
        rw [h1]
        simp only [asS]
        rw [h4, h5, h8, hy]
        simp only
        generalize segF p l y.oc y.oas day x.f x.t = q at h4 h5 h6 h7 h8
        obtain ⟨⟨a1, a2, a3, a4, a5, a6, a7⟩, e⟩ := q
        simp only at h4 h5 h6 h7 h8 ⊢
        rw [h4, h5, h6, h7, h8]
      have ho : onL l (oprF sh s).c (oprF sh s).n (oprF sh s).day = some g := by rw [hop, h6, h7, h8]; exact h2
      obtain ⟨k1, k2, k3, k4, k5⟩ := cov_op (sh := sh) ht h ho (by rw [hop, h8]; exact h3)
      have hcs : covF p l sh s = covF p l sh (oprF sh s) := by
        show (match onL l (oprF sh s).c (oprF sh s).n (oprF sh s).day with
          | none => ([], 7)
          | some x => pathF p x (oprF sh s)) = _
        rw [ho, k2]
      rw [hcs, k2]
      exact ⟨k3, rfl, k4, fun a ha => by
        obtain ⟨j1, j2, j3⟩ := k5 a ha
        exact ⟨j1, j2, by rw [j3, hop, h8]⟩⟩

/-! ### What is found -/
theorem fnd_op {p : Pls} {l : List Fl} {sh : List Sr} {c : Txt} {n day : Int} {f t : Txt} (hz : (fndF p l sh c n day f t).2 = 0) :
    segF p l (oprF sh (fndF p l sh c n day f t).1).c (oprF sh (fndF p l sh c n day f t).1).n (oprF sh (fndF p l sh c n day f t).1).day (oprF sh (fndF p l sh c n day f t).1).f (oprF sh (fndF p l sh c n day f t).1).t = (oprF sh (fndF p l sh c n day f t).1, 0) := by
  unfold fndF at hz ⊢
  cases hy : shareF sh c n day f t with
  | none =>
    rw [hy] at hz
    simp only at hz ⊢
    obtain ⟨g, h2, h3, h4, h5, h6, h7, h8⟩ := segF_ok hz
    have hop : oprF sh (segF p l c n day f t).1 = (segF p l c n day f t).1 := by
      unfold oprF
      rw [h4, h5, h6, h7, h8, hy]
    rw [hop, h4, h5, h6, h7, h8]
    exact Prod.ext rfl hz
  | some y =>
    rw [hy] at hz
    simp only at hz ⊢
    have hz2 : (segF p l y.oc y.oas day f t).2 = 0 := by
      by_cases h0 : (segF p l y.oc y.oas day f t).2 = 0
      · exact h0
      · rw [if_neg h0] at hz; exact absurd hz h0
    rw [if_pos hz2]
    obtain ⟨g, h2, h3, h4, h5, h6, h7, h8⟩ := segF_ok hz2
    have hop : oprF sh (asS (segF p l y.oc y.oas day f t).1 c n) = (segF p l y.oc y.oas day f t).1 := by
      unfold oprF
      simp only [asS]
      rw [h4, h5, h8, hy]
      simp only
      generalize segF p l y.oc y.oas day f t = q at h4 h5 h6 h7 h8
      obtain ⟨⟨a1, a2, a3, a4, a5, a6, a7⟩, e⟩ := q
      simp only at h4 h5 h6 h7 h8 ⊢
      subst h4 h5 h6 h7 h8
      rfl
    simp only
    rw [hop, h4, h5, h6, h7, h8]
    exact Prod.ext rfl hz2
end Go.Proofs.YtiihkfjbllpiaaaGreatDoor
