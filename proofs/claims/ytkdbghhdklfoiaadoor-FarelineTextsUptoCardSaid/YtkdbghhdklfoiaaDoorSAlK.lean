/- Keys of maps, and structs of numbers and texts, compared. -/
import Derived.Test.YtkdbghhdklfoiaaDoorSAl5
import Derived.MapKept
import Derived.Laws.StructEq
namespace Go.AL
set_option linter.unusedSectionVars false
variable [Mode]
set_option linter.unusedSimpArgs false
set_option linter.unusedVariables false
open Go.MapKept
def KM1 : KD1 → Value → Prop
  | .int k, u => ∃ n, u = .int k n
  | .str, u => ∃ s, u = .string s
def KMs : List KD1 → List Value → Prop
  | [], [] => True
  | k :: l, u :: us => KM1 k u ∧ KMs l us
  | _, _ => False
def KM : KD → Value → Prop
  | .one k, u => KM1 k u
  | .st l, u => ∃ us : Array Value, u = .agg us ∧ KMs l us.toList
section
variable {ρ : Place} {S : Store} {w : World}
theorem KM1.of {k : KD1} {v : V} {u : Value} {b : Bool} (h : isK1 k v = true) (hv : VR ρ S w b v u) : KM1 k u := by
  cases k <;> cases v <;> simp only [isK1, reduceCtorEq, decide_eq_true_eq, Bool.false_eq_true] at h
  · subst h; exact ⟨_, hv.int_inv⟩
  · obtain ⟨s, hs, _⟩ := hv.str_inv; exact ⟨s, hs⟩
theorem KMs.of {b : Bool} : ∀ {l : List KD1} {vs : List V} {us : List Value}, isKL l vs = true → us.length = vs.length → (∀ (j : Nat) (v : V), vs[j]? = some v → ∃ u, us[j]? = some u ∧ VR ρ S w b v u) → KMs l us
  | [], [], us, _, hl, _ => by
    have : us = [] := List.eq_nil_of_length_eq_zero (by simpa using hl)
    subst this
    trivial
  | k :: l, v :: vs, us, h, hl, hu => by
    simp only [isKL, Bool.and_eq_true] at h
    cases us with
    | nil => simp at hl
    | cons u us =>
      obtain ⟨u', hu', hr⟩ := hu 0 v rfl
      simp at hu'
      subst hu'
      exact ⟨KM1.of h.1 hr, KMs.of h.2 (by simpa using hl) fun j x hx => hu (j + 1) x (by simpa using hx)⟩
  | [], _ :: _, _, h, _, _ => by cases h
  | _ :: _, [], _, h, _, _ => by cases h
theorem KM.of {kd : KD} {v : V} {u : Value} {b : Bool} (h : isKV kd v = true) (hv : VR ρ S w b v u) : KM kd u := by
  cases kd with
  | one k => exact KM1.of h hv
  | st l =>
    cases v <;> first | (cases h; done) | skip
    cases hv with
    | @agg _ vs us c hl hc hv => exact ⟨us, rfl, KMs.of (ρ := ρ) (S := S) (w := w) (b := b) h (by simpa using hl) fun j v hj => ⟨c j, by simpa using hc j v hj, hv j v hj⟩⟩
theorem eqK1_iff {k : KD1} {v v' : V} {u u' : Value} {b : Bool} (h : isK1 k v = true) (h' : isK1 k v' = true) (hv : VR ρ S w b v u) (hv' : VR ρ S w b v' u') : eqK1 v v' = true ↔ u = u' := by
  cases k <;> cases v <;> simp only [isK1, reduceCtorEq, decide_eq_true_eq, Bool.false_eq_true] at h <;> cases v' <;> simp only [isK1, reduceCtorEq, decide_eq_true_eq, Bool.false_eq_true] at h'
  · subst h h'
    rw [hv.int_inv, hv'.int_inv]
    simp [eqK1]
  · obtain ⟨s, rfl, e1, _⟩ := hv.str_inv
    obtain ⟨s', rfl, e2, _⟩ := hv'.str_inv
    simp only [eqK1, decide_eq_true_eq, Value.string.injEq]
    constructor
    · intro e
      subst e
      obtain ⟨⟨d⟩⟩ := s
      obtain ⟨⟨d'⟩⟩ := s'
      simp only at e1 e2
      rw [← e2] at e1
      rw [e1]
    · rintro rfl
      rw [← e1, ← e2]
theorem eqKL_iff {b : Bool} : ∀ {l : List KD1} {vs vs' : List V} {us us' : List Value}, isKL l vs = true → isKL l vs' = true → us.length = vs.length → us'.length = vs'.length →
    (∀ (j : Nat) (v : V), vs[j]? = some v → ∃ u, us[j]? = some u ∧ VR ρ S w b v u) → (∀ (j : Nat) (v : V), vs'[j]? = some v → ∃ u, us'[j]? = some u ∧ VR ρ S w b v u) → (eqKL vs vs' = true ↔ us = us')
  | [], [], [], us, us', _, _, hl, hl', _, _ => by
    have h1 : us = [] := List.eq_nil_of_length_eq_zero (by simpa using hl)
    have h2 : us' = [] := List.eq_nil_of_length_eq_zero (by simpa using hl')
    subst h1 h2
    simp [eqKL]
  | k :: l, v :: vs, v' :: vs', us, us', h, h', hl, hl', hu, hu' => by
    simp only [isKL, Bool.and_eq_true] at h h'
    cases us with
    | nil => simp at hl
    | cons u us =>
      cases us' with
      | nil => simp at hl'
      | cons u' us' =>
        obtain ⟨x, hx, hr⟩ := hu 0 v rfl
        obtain ⟨x', hx', hr'⟩ := hu' 0 v' rfl
        simp at hx hx'
        subst hx hx'
        have ih := eqKL_iff h.2 h'.2 (by simpa using hl) (by simpa using hl') (fun j y hy => hu (j + 1) y (by simpa using hy)) (fun j y hy => hu' (j + 1) y (by simpa using hy)) (us := us) (us' := us')
        have i1 := eqK1_iff h.1 h'.1 hr hr'
        simp only [eqKL, Bool.and_eq_true, i1, ih, List.cons.injEq]
  | [], _ :: _, _, _, _, h, _, _, _, _, _ => by cases h
  | _ :: _, [], _, _, _, h, _, _, _, _, _ => by cases h
  | [], [], _ :: _, _, _, _, h, _, _, _, _ => by cases h
  | _ :: _, _ :: _, [], _, _, _, h, _, _, _, _ => by cases h
theorem eqKV_iff {kd : KD} {v v' : V} {u u' : Value} {b : Bool} (h : isKV kd v = true) (h' : isKV kd v' = true) (hv : VR ρ S w b v u) (hv' : VR ρ S w b v' u') : eqKV v v' = true ↔ u = u' := by
  cases kd with
  | one k =>
    have := eqK1_iff h h' hv hv'
    cases k <;> cases v <;> simp only [isKV, isK1, reduceCtorEq, decide_eq_true_eq, Bool.false_eq_true] at h <;> cases v' <;> simp only [isKV, isK1, reduceCtorEq, decide_eq_true_eq, Bool.false_eq_true] at h' <;> simpa [eqKV] using this
  | st l =>
    cases v <;> first | (cases h; done) | skip
    cases v' <;> first | (cases h'; done) | skip
    cases hv with
    | @agg _ vs us c hl hc hv =>
      cases hv' with
      | @agg _ vs' us' c' hl' hc' hv' =>
        have := eqKL_iff (ρ := ρ) (S := S) (w := w) (b := b) (l := l) (us := us.toList) (us' := us'.toList) h h' (by simpa using hl) (by simpa using hl') (fun j v hj => ⟨c j, by simpa using hc j v hj, hv j v hj⟩) (fun j v hj => ⟨c' j, by simpa using hc' j v hj, hv' j v hj⟩)
        simp only [eqKV, this, Value.agg.injEq]
        exact ⟨fun e => Array.ext' e, fun e => by rw [e]⟩
end
section
variable {P : Program} {w : World}
theorem kd1_under {t : TypeId} {k : KD1} (h : kd1Of P t = some k) : (∃ j, k = .int j ∧ P.underlying t = some (.int j)) ∨ (k = .str ∧ P.underlying t = some .string) := by
  unfold kd1Of at h
  split at h
  · rename_i j hj; cases h; exact .inl ⟨j, rfl, hj⟩
  · rename_i hj; cases h; exact .inr ⟨rfl, hj⟩
  · cases h
theorem KM1.isKey {t : TypeId} {k : KD1} {a : Value} (h : kd1Of P t = some k) (ha : KM1 k a) : ∃ d, P.underlying t = some d ∧ IsKey d a := by
  rcases kd1_under h with ⟨j, rfl, hu⟩ | ⟨rfl, hu⟩
  · obtain ⟨n, rfl⟩ := ha; exact ⟨_, hu, rfl⟩
  · obtain ⟨s, rfl⟩ := ha; exact ⟨_, hu, trivial⟩
theorem eq1_run {t : TypeId} {k : KD1} {a b : Value} (h : kd1Of P t = some k) (ha : KM1 k a) (hb : KM1 k b) (d : Nat) : ∃ r, (Op.equalIn (d + 1) t a b).run P w = .ok r w ∧ (r = true ↔ a = b) := by
  rcases kd1_under h with ⟨j, rfl, hu⟩ | ⟨rfl, hu⟩
  · obtain ⟨n, rfl⟩ := ha
    obtain ⟨m, rfl⟩ := hb
    exact ⟨_, run_equalIn_int w d t j j n m hu, by simp⟩
  · obtain ⟨s, rfl⟩ := ha
    obtain ⟨s', rfl⟩ := hb
    refine ⟨s == s', by simp [Op.equalIn, run_underlying hu], ?_⟩
    rw [bytes_beq]
    simp
theorem drop_of_get {α : Type} {l : List α} {n : Nat} {x : α} (h : l[n]? = some x) : l.drop n = x :: l.drop (n + 1) := by
  obtain ⟨hlt, rfl⟩ := List.getElem?_eq_some_iff.1 h
  exact List.drop_eq_getElem_cons hlt
theorem KMs.head {k : KD1} {l : List KD1} {us : List Value} {n : Nat} (h : KMs (k :: l) (us.drop n)) : ∃ u, us[n]? = some u ∧ KM1 k u ∧ KMs l (us.drop (n + 1)) ∧ us.drop n = u :: us.drop (n + 1) := by
  cases hu : us[n]? with
  | none =>
    rw [List.drop_eq_nil_of_le (List.getElem?_eq_none_iff.1 hu)] at h
    exact h.elim
  | some u =>
    rw [drop_of_get hu] at h
    exact ⟨u, rfl, h.1, h.2, drop_of_get hu⟩
theorem eqFields_run (d : Nat) (xs ys : Array Value) : ∀ (fs : List Field) (n : Nat) (l : List KD1), kdFields P fs n = some l → KMs l (xs.toList.drop n) → KMs l (ys.toList.drop n) →
    ∃ r, (Op.eqFields (d + 1) xs ys fs).run P w = .ok r w ∧ (r = true ↔ xs.toList.drop n = ys.toList.drop n)
  | [], n, l, h, hx, hy => by
    simp only [kdFields, Option.some.injEq] at h
    subst h
    have e1 : xs.toList.drop n = [] := by cases e : xs.toList.drop n with | nil => rfl | cons a b => rw [e] at hx; exact hx.elim
    have e2 : ys.toList.drop n = [] := by cases e : ys.toList.drop n with | nil => rfl | cons a b => rw [e] at hy; exact hy.elim
    exact ⟨true, by simp [Op.eqFields], by rw [e1, e2]; simp⟩
  | f :: fs, n, l, h, hx, hy => by
    simp only [kdFields] at h
    split at h
    · rename_i k l' hk hl
      split at h
      · rename_i hc
        obtain ⟨ho, hag, hnm⟩ := hc
        cases h
        obtain ⟨x, x1, x2, x3, x4⟩ := hx.head
        obtain ⟨y, y1, y2, y3, y4⟩ := hy.head
        have px := part1_run (P := P) (cs := xs) (off := f.offset) hag (by rw [ho]; simpa using x1) w
        have py := part1_run (P := P) (cs := ys) (off := f.offset) hag (by rw [ho]; simpa using y1) w
        obtain ⟨r, hr, hri⟩ := eq1_run (w := w) hk x2 y2 d
        obtain ⟨r', hr', hri'⟩ := eqFields_run d xs ys fs (n + 1) l' hl x3 y3
        have hnm' : f.name ≠ "_" := by simpa using hnm
        have hrun : (Op.eqFields (d + 1) xs ys (f :: fs)).run P w = .ok (if r then r' else false) w := by
          simp only [Op.eqFields, hnm', ne_eq, not_false_eq_true, if_true, Sem.run_bind, px, py, Result.andThen_ok, hr]
          cases r
          · simp
          · simp only [Bool.not_true, Bool.false_eq_true, if_false, if_true, hr']
        refine ⟨_, hrun, ?_⟩
        rw [x4, y4, List.cons.injEq, ← hri, ← hri']
        cases r <;> simp
      · cases h
    · cases h
theorem kdStruct_spec {t : TypeId} {l : List KD1} (h : kdStruct P t = some l) : ∃ fs, P.underlying t = some (.struct fs) ∧ P.fieldsOf t = fs ∧ P.stoodInHeld t = false ∧ kdFields P fs.toList 0 = some l := by
  unfold kdStruct at h
  split at h
  · rename_i fs hu
    split at h
    · rename_i hs; exact ⟨fs, hu, by simp [Program.fieldsOf, hu], hs, h⟩
    · cases h
  · cases h
theorem eqA_run {t : TypeId} {l : List KD1} {xs ys : Array Value} (h : kdStruct P t = some l) (hx : KMs l xs.toList) (hy : KMs l ys.toList) (d : Nat) : ∃ r, (Op.equalIn (d + 2) t (.agg xs) (.agg ys)).run P w = .ok r w ∧ (r = true ↔ xs = ys) := by
  obtain ⟨fs, hu, hf, hs, hk⟩ := kdStruct_spec h
  obtain ⟨r, hr, hi⟩ := eqFields_run (P := P) (w := w) d xs ys fs.toList 0 l hk hx hy
  refine ⟨r, ?_, ?_⟩
  · rw [show d + 2 = (d + 1) + 1 from rfl, run_equalIn_struct w (d + 1) t xs ys (by rw [hf]; exact hu) hs, hf]
    exact hr
  · rw [hi, List.drop_zero, List.drop_zero]
    exact ⟨fun e => Array.ext' e, fun e => by rw [e]⟩
theorem kdArr_spec {t : TypeId} {l : List KD1} (h : kdArr P t = some l) : ∃ n e k, P.underlying t = some (.array n e) ∧ kd1Of P e = some k ∧ isAggT P e = some false ∧ P.cellsOf e = 1 ∧ l = List.replicate n k := by
  unfold kdArr at h
  split at h
  · rename_i n e hu
    split at h
    · rename_i k hk
      split at h
      · rename_i hc
        simp only [Option.some.injEq] at h
        exact ⟨n, e, k, hu, hk, hc.1, hc.2, h.symm⟩
      · cases h
    · cases h
  · cases h
theorem eqItems_run (d : Nat) {e : TypeId} {k : KD1} (hk : kd1Of P e = some k) (hag : isAggT P e = some false) (xs ys : Array Value) : ∀ (m j : Nat), KMs (List.replicate m k) (xs.toList.drop j) → KMs (List.replicate m k) (ys.toList.drop j) →
    ∃ r, (Op.eqItems (d + 1) e 1 xs ys (List.range' j m)).run P w = .ok r w ∧ (r = true ↔ xs.toList.drop j = ys.toList.drop j)
  | 0, j, hx, hy => by
    have e1 : xs.toList.drop j = [] := by cases e : xs.toList.drop j with | nil => rfl | cons a b => rw [e] at hx; exact hx.elim
    have e2 : ys.toList.drop j = [] := by cases e : ys.toList.drop j with | nil => rfl | cons a b => rw [e] at hy; exact hy.elim
    exact ⟨true, by simp [Op.eqItems], by rw [e1, e2]; simp⟩
  | m + 1, j, hx, hy => by
    rw [List.replicate_succ] at hx hy
    obtain ⟨x, x1, x2, x3, x4⟩ := hx.head
    obtain ⟨y, y1, y2, y3, y4⟩ := hy.head
    have px := part1_run (P := P) (cs := xs) (off := j * 1) hag (by rw [Nat.mul_one]; simpa using x1) w
    have py := part1_run (P := P) (cs := ys) (off := j * 1) hag (by rw [Nat.mul_one]; simpa using y1) w
    obtain ⟨r, hr, hri⟩ := eq1_run (w := w) hk x2 y2 d
    obtain ⟨r', hr', hri'⟩ := eqItems_run d hk hag xs ys m (j + 1) x3 y3
    have hrun : (Op.eqItems (d + 1) e 1 xs ys (List.range' j (m + 1))).run P w = .ok (if r then r' else false) w := by
      rw [List.range'_succ]
      simp only [Op.eqItems, Sem.run_bind, px, py, Result.andThen_ok, hr]
      cases r
      · simp
      · simp only [Bool.not_true, Bool.false_eq_true, if_false, if_true, hr']
    refine ⟨_, hrun, ?_⟩
    rw [x4, y4, List.cons.injEq, ← hri, ← hri']
    cases r <;> simp
theorem eqArr_run {t : TypeId} {l : List KD1} {xs ys : Array Value} (h : kdArr P t = some l) (hx : KMs l xs.toList) (hy : KMs l ys.toList) (d : Nat) : ∃ r, (Op.equalIn (d + 2) t (.agg xs) (.agg ys)).run P w = .ok r w ∧ (r = true ↔ xs = ys) := by
  obtain ⟨n, e, k, hu, hk, hag, hc, rfl⟩ := kdArr_spec h
  obtain ⟨i, hi⟩ : ∃ i, P.info? e = some i := by
    unfold isAggT at hag
    cases hq : P.info? e with
    | some i => exact ⟨i, rfl⟩
    | none => simp [Program.underlying, hq] at hag
  obtain ⟨r, hr, hri⟩ := eqItems_run (P := P) (w := w) d hk hag xs ys n 0 (by simpa using hx) (by simpa using hy)
  refine ⟨r, ?_, ?_⟩
  · rw [show d + 2 = (d + 1) + 1 from rfl, run_equalIn_array w (d + 1) xs ys hu hi, hc, List.range_eq_range']
    exact hr
  · rw [hri, List.drop_zero, List.drop_zero]
    exact ⟨fun e => Array.ext' e, fun e => by rw [e]⟩
theorem kdOf_spec {t : TypeId} {kd : KD} (h : kdOf P t = some kd) : (∃ k, kd = .one k ∧ kd1Of P t = some k) ∨ ∃ l, kd = .st l ∧ kdStruct P t = some l := by
  unfold kdOf at h
  split at h
  · rename_i k hk; cases h; exact .inl ⟨k, rfl, hk⟩
  · simp only [Option.map_eq_some_iff] at h
    obtain ⟨l, hl, rfl⟩ := h
    exact .inr ⟨l, rfl, hl⟩
theorem eqK_run {t : TypeId} {kd : KD} {a b : Value} (h : kdOf P t = some kd) (ha : KM kd a) (hb : KM kd b) : ∃ r, (Op.equal t a b).run P w = .ok r w ∧ (r = true ↔ a = b) := by
  rcases kdOf_spec h with ⟨k, rfl, hk⟩ | ⟨l, rfl, hl⟩
  · exact eq1_run hk ha hb 9999
  · obtain ⟨xs, rfl, hx⟩ := ha
    obtain ⟨ys, rfl, hy⟩ := hb
    obtain ⟨r, hr, hi⟩ := eqA_run (w := w) hl hx hy 9998
    exact ⟨r, hr, by rw [hi]; simp⟩
theorem check_run {t : TypeId} {kd : KD} {a : Value} (h : kdOf P t = some kd) (ha : KM kd a) (em : Bool) : (Instr.checkKey em 10000 t a).run P w = .ok () w := by
  rcases kdOf_spec h with ⟨k, rfl, hk⟩ | ⟨l, rfl, hl⟩
  · obtain ⟨d, hd, hk1⟩ := KM1.isKey hk ha
    exact run_checkKey hd hk1 em 9999
  · obtain ⟨xs, rfl, hx⟩ := ha
    obtain ⟨fs, hu, hf, hs, hk⟩ := kdStruct_spec hl
    rw [show (10000 : Nat) = 9999 + 1 from rfl, Instr.checkKey]
    simp only [Sem.run_bind, run_underlying hu, Result.andThen_ok]
    rw [← Array.forIn_toList]
    clear hu hf h hl hs
    generalize hL : fs.toList = L at hk
    clear hL
    rw [show xs.toList = xs.toList.drop 0 from rfl] at hx
    generalize (0 : Nat) = n at hx hk
    induction L generalizing n l with
    | nil => simp
    | cons f L ih =>
      simp only [kdFields] at hk
      split at hk
      · rename_i k l' hk1 hl'
        split at hk
        · rename_i hc
          obtain ⟨ho, hag, hnm⟩ := hc
          cases hk
          obtain ⟨x, x1, x2, x3, x4⟩ := hx.head
          have px := part1_run (P := P) (cs := xs) (off := f.offset) hag (by rw [ho]; simpa using x1) w
          obtain ⟨d, hd, hk2⟩ := x2.isKey hk1
          have hch := run_checkKey (w := w) hd hk2 em 9998
          have hnm' : f.name ≠ "_" := by simpa using hnm
          simp only [List.forIn_cons, Sem.run_bind, hnm', ne_eq, not_false_eq_true, if_true, px, Result.andThen_ok, hch, Sem.run_pure]
          exact ih l' (n + 1) x3 hl'
        · cases hk
      · cases hk
theorem findAsking_run {t : TypeId} {kd : KD} {x : Value} (h : kdOf P t = some kd) (hx : KM kd x) : ∀ (es : List MapEntry) (i : Nat), (∀ e ∈ es, KM kd e.key) →
    ((Instr.findAsking t x es i).run P w = .ok none w ∧ ∀ e ∈ es, e.key ≠ x) ∨ ∃ j e, (Instr.findAsking t x es i).run P w = .ok (some (i + j, e.val)) w ∧ es[j]? = some e ∧ e.key = x ∧ ∀ e' ∈ es.take j, e'.key ≠ x
  | [], i, _ => .inl ⟨by simp [Instr.findAsking], by simp⟩
  | e :: es, i, hall => by
    obtain ⟨r, hr, hiff⟩ := eqK_run (w := w) h hx (hall e (by simp))
    cases r
    · have hne : e.key ≠ x := fun hh => by have := hiff.2 hh.symm; cases this
      rcases findAsking_run h hx es (i + 1) (fun y hy => hall y (by simp [hy])) with ⟨h1, h2⟩ | ⟨j, e', h1, h2, h3, h4⟩
      · left
        refine ⟨by simp [Instr.findAsking, hr, h1], fun y hy => ?_⟩
        rcases List.mem_cons.1 hy with rfl | hy
        · exact hne
        · exact h2 y hy
      · right
        refine ⟨j + 1, e', by simp [Instr.findAsking, hr, h1, Nat.add_assoc, Nat.add_comm 1 j], by simpa using h2, h3, fun y hy => ?_⟩
        simp only [List.take_succ_cons, List.mem_cons] at hy
        rcases hy with rfl | hy
        · exact hne
        · exact h4 y hy
    · right
      exact ⟨0, e, by simp [Instr.findAsking, hr], rfl, (hiff.1 rfl).symm, by simp⟩
theorem findNow_first {d : TypeDesc} {k : Value} (hk : IsKey d k) : ∀ (l : List MapEntry) (i : Nat), (∀ x ∈ l, IsKey d x.key) →
    (Instr.findNow d k l i = some none ∧ ∀ x ∈ l, x.key ≠ k) ∨ ∃ j e, Instr.findNow d k l i = some (some (i + j, e.val)) ∧ l[j]? = some e ∧ e.key = k ∧ ∀ e' ∈ l.take j, e'.key ≠ k
  | [], i, _ => .inl ⟨rfl, by simp⟩
  | e :: es, i, hall => by
    obtain ⟨r, hr, hiff⟩ := sameNow_of_keys hk (hall e (by simp))
    cases r
    · have hne : e.key ≠ k := fun hh => by have := hiff.2 hh.symm; cases this
      rcases findNow_first hk es (i + 1) (fun y hy => hall y (by simp [hy])) with ⟨h1, h2⟩ | ⟨j, e', h1, h2, h3, h4⟩
      · left
        refine ⟨by simp [Instr.findNow, hr, h1], fun y hy => ?_⟩
        rcases List.mem_cons.1 hy with rfl | hy
        · exact hne
        · exact h2 y hy
      · right
        refine ⟨j + 1, e', by simp [Instr.findNow, hr, h1, Nat.add_assoc, Nat.add_comm 1 j], by simpa using h2, h3, fun y hy => ?_⟩
        simp only [List.take_succ_cons, List.mem_cons] at hy
        rcases hy with rfl | hy
        · exact hne
        · exact h4 y hy
    · right
      exact ⟨0, e, by simp [Instr.findNow, hr], rfl, (hiff.1 rfl).symm, by simp⟩
theorem find_run {t : TypeId} {kd : KD} {x : Value} (h : kdOf P t = some kd) (hx : KM kd x) (es : List MapEntry) (hall : ∀ e ∈ es, KM kd e.key) :
    ((Instr.findKey t x es).run P w = .ok none w ∧ ∀ e ∈ es, e.key ≠ x) ∨ ∃ j e, (Instr.findKey t x es).run P w = .ok (some (j, e.val)) w ∧ es[j]? = some e ∧ e.key = x ∧ ∀ e' ∈ es.take j, e'.key ≠ x := by
  rcases kdOf_spec h with ⟨k, rfl, hk⟩ | ⟨l, rfl, hl⟩
  · obtain ⟨d, hd, hk1⟩ := KM1.isKey hk hx
    have hks : ∀ y ∈ es, IsKey d y.key := fun y hy => by
      obtain ⟨d', hd', h1⟩ := KM1.isKey hk (hall y hy)
      rw [hd] at hd'
      cases hd'
      exact h1
    rcases findNow_first hk1 es 0 hks with ⟨h1, h2⟩ | ⟨j, e0, h1, h2, h3, h4⟩
    · exact .inl ⟨run_findKey hd h1, h2⟩
    · exact .inr ⟨j, e0, by simpa using run_findKey hd h1, h2, h3, h4⟩
  · obtain ⟨fs, hu, hf, hs, hk⟩ := kdStruct_spec hl
    obtain ⟨xs, rfl, hx'⟩ := id hx
    have hkey : (Instr.findKey t (.agg xs) es).run P w = (Instr.findAsking t (.agg xs) es 0).run P w := by
      simp only [Instr.findKey, Sem.run_bind, run_underlying hu, Result.andThen_ok]
      cases es with
      | nil => simp [Instr.findNow, Instr.findAsking]
      | cons e es =>
        have : Instr.findNow (.struct fs) (.agg xs) (e :: es) 0 = none := by simp [Instr.findNow, Instr.sameNow]
        rw [this]
    rw [hkey]
    rcases findAsking_run h hx es 0 hall with h1 | ⟨j, e, h1, h2⟩
    · exact .inl h1
    · exact .inr ⟨j, e, by simpa using h1, h2⟩
theorem sameBits_K1 {k : KD1} {a : Value} (ha : KM1 k a) (n : Nat) : Instr.sameBits n a a = true := by
  cases k
  · obtain ⟨n', rfl⟩ := ha; simp [Instr.sameBits]
  · obtain ⟨s, rfl⟩ := ha; simp [Instr.sameBits, bytes_beq]
theorem sameBits_Ks (n : Nat) : ∀ {l : List KD1} {us : List Value}, KMs l us → ∀ p ∈ us.zip us, Instr.sameBits n p.1 p.2 = true
  | [], [], _, p, hp => by simp at hp
  | k :: l, u :: us, h, p, hp => by
    simp only [List.zip_cons_cons, List.mem_cons] at hp
    rcases hp with rfl | hp
    · exact sameBits_K1 h.1 n
    · exact sameBits_Ks n h.2 p hp
  | [], _ :: _, h, _, _ => h.elim
  | _ :: _, [], h, _, _ => h.elim
theorem stays_run {kd : KD} {a : Value} (ha : KM kd a) : (Instr.keyThatStays a a).run P w = .ok a w := by
  have : Instr.sameBits 10000 a a = true := by
    cases kd with
    | one k => exact sameBits_K1 ha _
    | st l =>
      obtain ⟨us, rfl, hu⟩ := ha
      show Instr.sameBits (9999 + 1) (.agg us) (.agg us) = true
      simp only [Instr.sameBits, beq_self_eq_true, Bool.true_and, List.all_eq_true]
      rintro ⟨p, q⟩ hp
      exact sameBits_Ks 9999 hu (p, q) hp
  simp [Instr.keyThatStays, this]
end
end Go.AL
