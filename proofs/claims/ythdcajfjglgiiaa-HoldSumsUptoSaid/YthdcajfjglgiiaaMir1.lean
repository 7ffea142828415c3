/- A mirror in the store: three maps and the struct; what lies around it stands. -/
import Derived.Test.YthdcajfjglgiiaaAlM
namespace Go.Proofs.Ythdcajfjglgiiaa
open Go Go.AL
set_option linter.unusedSectionVars false
variable [Go.AL.Mode] [Go.AL.LooseM]
set_option linter.unusedSimpArgs false
set_option linter.unusedVariables false

def mapO (kd : KD) (s : List (V × V)) (x : MX) : AL.Obj := ⟨0, some (.mp ⟨kd, s, x⟩)⟩
def kdK : KD := .st [.int .i64, .int .i64]
def kdI : KD := .one (.int .i64)
def mirX (A B : Store) (s : List (V × V)) (x : MX) (q c : List (V × V)) (n : Int) : Store :=
  A ++ (mapO (.st [.int .i64, .int .i64]) s x :: mapO (.one (.int .i64)) q .free :: mapO (.one (.int .i64)) c .free :: ⟨0, some (.arr 50 4 [[.mapv A.length 0, .mapv (A.length + 1) 0, .mapv (A.length + 2) 0, .int .i64 n]])⟩ :: B)
def mxN (A B : Store) : Nat := A.length + (B.length + 4)

section
variable {A B L : Store} {s q c s' q' c' : List (V × V)} {x x' : MX} {n n' : Int} {k ver : Nat} {o : AL.Obj}
theorem mx_len : (mirX A B s x q c n).length = mxN A B := by simp [mirX, mxN]
theorem mx_app : mirX A B s x q c n ++ L = mirX A (B ++ L) s x q c n := by simp [mirX]
theorem mx_mp0 : Store.mp? (mirX A B s x q c n) A.length 0 = some (.st [.int .i64, .int .i64], s, x) := by rw [mirX, mp_app0]; rfl
theorem mx_mp1 : Store.mp? (mirX A B s x q c n) (A.length + 1) 0 = some (.one (.int .i64), q, .free) := by rw [mirX, mp_app]; rfl
theorem mx_mp2 : Store.mp? (mirX A B s x q c n) (A.length + 2) 0 = some (.one (.int .i64), c, .free) := by rw [mirX, mp_app]; rfl
theorem mx_ob3 : Store.obj? (mirX A B s x q c n) (A.length + 3) 0 = some (50, 4, [[.mapv A.length 0, .mapv (A.length + 1) 0, .mapv (A.length + 2) 0, .int .i64 n]]) := by rw [mirX, ob_app]; rfl
theorem mx_se0 : (mirX A B s x q c n).set A.length ⟨0, some (.mp ⟨.st [.int .i64, .int .i64], s', x'⟩)⟩ = mirX A B s' x' q c n := by rw [mirX, se_app0]; rfl
theorem mx_se1 : (mirX A B s x q c n).set (A.length + 1) ⟨0, some (.mp ⟨.one (.int .i64), q', .free⟩)⟩ = mirX A B s x q' c n := by rw [mirX, se_app]; rfl
theorem mx_se2 : (mirX A B s x q c n).set (A.length + 2) ⟨0, some (.mp ⟨.one (.int .i64), c', .free⟩)⟩ = mirX A B s x q c' n := by rw [mirX, se_app]; rfl
theorem mx_se3 : (mirX A B s x q c n).set (A.length + 3) ⟨0, some (.arr 50 4 [[.mapv A.length 0, .mapv (A.length + 1) 0, .mapv (A.length + 2) 0, .int .i64 n']])⟩ = mirX A B s x q c n' := by rw [mirX, se_app]; rfl
theorem ml_mp0 : Store.mp? (mirX A B s x q c n ++ L) A.length 0 = some (.st [.int .i64, .int .i64], s, x) := by rw [mx_app, mx_mp0]
theorem ml_mp1 : Store.mp? (mirX A B s x q c n ++ L) (A.length + 1) 0 = some (.one (.int .i64), q, .free) := by rw [mx_app, mx_mp1]
theorem ml_mp2 : Store.mp? (mirX A B s x q c n ++ L) (A.length + 2) 0 = some (.one (.int .i64), c, .free) := by rw [mx_app, mx_mp2]
theorem ml_ob3 : Store.obj? (mirX A B s x q c n ++ L) (A.length + 3) 0 = some (50, 4, [[.mapv A.length 0, .mapv (A.length + 1) 0, .mapv (A.length + 2) 0, .int .i64 n]]) := by rw [mx_app, mx_ob3]
theorem ml_se0 : (mirX A B s x q c n ++ L : Store).set A.length ⟨0, some (.mp ⟨.st [.int .i64, .int .i64], s', x'⟩)⟩ = mirX A B s' x' q c n ++ L := by rw [mx_app, mx_se0, mx_app]
theorem ml_se1 : (mirX A B s x q c n ++ L : Store).set (A.length + 1) ⟨0, some (.mp ⟨.one (.int .i64), q', .free⟩)⟩ = mirX A B s x q' c n ++ L := by rw [mx_app, mx_se1, mx_app]
theorem ml_se2 : (mirX A B s x q c n ++ L : Store).set (A.length + 2) ⟨0, some (.mp ⟨.one (.int .i64), c', .free⟩)⟩ = mirX A B s x q c' n ++ L := by rw [mx_app, mx_se2, mx_app]
theorem ml_se3 : (mirX A B s x q c n ++ L : Store).set (A.length + 3) ⟨0, some (.arr 50 4 [[.mapv A.length 0, .mapv (A.length + 1) 0, .mapv (A.length + 2) 0, .int .i64 n']])⟩ = mirX A B s x q c n' ++ L := by rw [mx_app, mx_se3, mx_app]
theorem mn_ob : Store.obj? (mirX A B s x q c n ++ L) (mxN A B + k) ver = Store.obj? L k ver := by rw [← mx_len (s := s) (x := x) (q := q) (c := c) (n := n), ob_app]
theorem mn_ob0 : Store.obj? (mirX A B s x q c n ++ L) (mxN A B) ver = Store.obj? L 0 ver := by rw [← mx_len (s := s) (x := x) (q := q) (c := c) (n := n), ob_app0]
theorem mn_mp : Store.mp? (mirX A B s x q c n ++ L) (mxN A B + k) ver = Store.mp? L k ver := by rw [← mx_len (s := s) (x := x) (q := q) (c := c) (n := n), mp_app]
theorem mn_mp0 : Store.mp? (mirX A B s x q c n ++ L) (mxN A B) ver = Store.mp? L 0 ver := by rw [← mx_len (s := s) (x := x) (q := q) (c := c) (n := n), mp_app0]
theorem mn_se : (mirX A B s x q c n ++ L : Store).set (mxN A B + k) o = mirX A B s x q c n ++ L.set k o := by rw [← mx_len (s := s) (x := x) (q := q) (c := c) (n := n), se_app]
theorem mn_se0 : (mirX A B s x q c n ++ L : Store).set (mxN A B) o = mirX A B s x q c n ++ L.set 0 o := by rw [← mx_len (s := s) (x := x) (q := q) (c := c) (n := n), se_app0]
end
theorem evM : ((type_of% @mx_len) ∧ (type_of% @mx_mp0) ∧ (type_of% @mx_mp1) ∧ (type_of% @mx_mp2) ∧ (type_of% @mx_ob3)) ∧ ((type_of% @mx_se0) ∧ (type_of% @mx_se1) ∧ (type_of% @mx_se2) ∧ (type_of% @mx_se3)) ∧ ((type_of% @ml_mp0) ∧ (type_of% @ml_mp1) ∧ (type_of% @ml_mp2) ∧ (type_of% @ml_ob3)) ∧ ((type_of% @ml_se0) ∧ (type_of% @ml_se1) ∧ (type_of% @ml_se2) ∧ (type_of% @ml_se3)) ∧ ((type_of% @mn_ob) ∧ (type_of% @mn_ob0) ∧ (type_of% @mn_mp) ∧ (type_of% @mn_mp0) ∧ (type_of% @mn_se) ∧ (type_of% @mn_se0)) :=
  ⟨⟨@mx_len, @mx_mp0, @mx_mp1, @mx_mp2, @mx_ob3⟩, ⟨@mx_se0, @mx_se1, @mx_se2, @mx_se3⟩, ⟨@ml_mp0, @ml_mp1, @ml_mp2, @ml_ob3⟩, ⟨@ml_se0, @ml_se1, @ml_se2, @ml_se3⟩, @mn_ob, @mn_ob0, @mn_mp, @mn_mp0, @mn_se, @mn_se0⟩

/-! ### Neat stores, object by object -/
def objN (n : Nat) (o : AL.Obj) : Prop := match o.st with
  | none => True
  | some (.arr e sz rows) => ∀ r ∈ rows, r.length = sz ∧ V.allUnder n r = true
  | some (.mp m) => (∀ p ∈ m.rows, p.1.under n = true ∧ p.2.under n = true ∧ isKV m.kd p.1 = true) ∧ ∀ of p, m.x = .iter of (some p) → p.1.under n = true ∧ p.2.under n = true
theorem neat_iff {S : Store} : Neat S ↔ ∀ o ∈ S, objN S.length o := by
  constructor
  · intro h o ho
    obtain ⟨id, hid⟩ := List.getElem?_of_mem ho
    obtain ⟨ver, st⟩ := o
    cases st with
    | none => trivial
    | some ct =>
      cases ct with
      | arr e sz rows => exact h.1 id ver e sz rows hid
      | mp m => exact h.2 id ver m hid
  · intro h
    refine ⟨fun id ver e sz rows hid => ?_, fun id ver m hid => ?_⟩
    · exact h _ (List.mem_of_getElem? hid)
    · exact h _ (List.mem_of_getElem? hid)
theorem objN.self {S S1 : Store} {o : AL.Obj} (h : objN S1.length o) : objF S S1 o o.st := by
  obtain ⟨ver, st⟩ := o
  cases st with
  | none => trivial
  | some ct =>
    cases ct with
    | arr e sz rows => exact ⟨rows, rfl, .under h⟩
    | mp m =>
      refine ⟨m, rfl, .same fun of p hp => .inl (h.2 of p hp), rfl, rfl, fun p hp => (h.1 p hp).2.2, fun i p1 p h1 h2 => ?_⟩
      rw [h1] at h2
      cases h2
      obtain ⟨k1, k2, _⟩ := h.1 p1 (List.mem_of_getElem? h1)
      exact ⟨.same (.inl k1), .same (.inl k2)⟩
theorem fgt_point {S S1 : Store} (hl : S1.length ≤ S.length) (h : ∀ (id : Nat) (o1 : AL.Obj), S1[id]? = some o1 → ∃ o, S[id]? = some o ∧ o.ver = o1.ver ∧ objF S S1 o o1.st) : Fgt S S1 where
  len := hl
  obj id o1 h1 := by
    obtain ⟨o, a, b, c⟩ := h id o1 h1
    refine ⟨o, a, b, fun t sz rows1 hst => ?_⟩
    rw [hst] at c
    obtain ⟨rows, d, e1, e2, e3⟩ := c
    exact ⟨rows, d, e1, fun i r hi => e2 r (List.mem_of_getElem? hi), e3⟩
  objM id o1 h1 m1 hst := by
    obtain ⟨o, a, b, c⟩ := h id o1 h1
    rw [hst] at c
    obtain ⟨m, d, e⟩ := c
    exact ⟨o, m, a, b, d, e⟩

/-- Entries of pure data. -/
def mOk (kd : KD) (s : List (V × V)) : Prop := ∀ p ∈ s, isKV kd p.1 = true ∧ p.1.isImm = true ∧ p.2.isImm = true
theorem mOk.objN {kd : KD} {s : List (V × V)} {x : MX} {k : Nat} (h : mOk kd s) (hx : x.isIt = false) : objN k (mapO kd s x) := by
  refine ⟨fun p hp => ?_, fun of p hp => by simp only at hp; rw [hp] at hx; cases hx⟩
  obtain ⟨h1, h2, h3⟩ := h p hp
  exact ⟨isImm_under _ h2, isImm_under _ h3, h1⟩

section
variable {A B T : Store} {s q c s' q' c' : List (V × V)} {x x' : MX} {n n' : Int}
theorem mirX_neat (h : Neat (mirX A B s x q c n)) (h1 : mOk (.st [.int .i64, .int .i64]) s') (h2 : mOk (.one (.int .i64)) q') (h3 : mOk (.one (.int .i64)) c') (hx : x'.isIt = false) : Neat (mirX A B s' x' q' c' n') := by
  rw [neat_iff] at h ⊢
  rw [mx_len] at h ⊢
  intro o ho
  simp only [mirX, List.mem_append, List.mem_cons] at h ho
  rcases ho with ho | rfl | rfl | rfl | rfl | ho
  · exact h o (.inl ho)
  · exact h1.objN hx
  · exact h2.objN rfl
  · exact h3.objN rfl
  · intro r hr
    simp only [List.mem_singleton] at hr
    subst hr
    refine ⟨rfl, ?_⟩
    have e0 : A.length < mxN A B := by unfold mxN; omega
    have e1 : A.length + 1 < mxN A B := by unfold mxN; omega
    have e2 : A.length + 2 < mxN A B := by unfold mxN; omega
    simp [V.allUnder, V.under, e0, e1, e2]
  · exact h o (.inr (.inr (.inr (.inr (.inr ho)))))
/-- What the maps hold is frozen, what is behind is forgotten. -/
theorem mirX_fgt (h : Neat (mirX A B s' x' q' c' n))
    (h1 : objF (mirX A B s x q c n ++ T) (mirX A B s' x' q' c' n) (mapO (.st [.int .i64, .int .i64]) s x) (some (.mp ⟨.st [.int .i64, .int .i64], s', x'⟩)))
    (h2 : objF (mirX A B s x q c n ++ T) (mirX A B s' x' q' c' n) (mapO (.one (.int .i64)) q .free) (some (.mp ⟨.one (.int .i64), q', .free⟩)))
    (h3 : objF (mirX A B s x q c n ++ T) (mirX A B s' x' q' c' n) (mapO (.one (.int .i64)) c .free) (some (.mp ⟨.one (.int .i64), c', .free⟩))) : Fgt (mirX A B s x q c n ++ T) (mirX A B s' x' q' c' n) := by
  have hn := neat_iff.1 h
  refine fgt_point (by rw [List.length_append, mx_len, mx_len]; omega) fun id o1 ho => ?_
  have hm := hn o1 (List.mem_of_getElem? ho)
  have hlt : id < mxN A B := by rw [← mx_len (s := s') (x := x') (q := q') (c := c') (n := n)]; exact (List.getElem?_eq_some_iff.1 ho).1
  rw [List.getElem?_append_left (by rw [mx_len]; exact hlt)]
  by_cases hid : id < A.length
  · refine ⟨o1, ?_, rfl, hm.self⟩
    simp only [mirX] at ho ⊢
    rw [List.getElem?_append_left hid] at ho ⊢
    exact ho
  · obtain ⟨k, rfl⟩ : ∃ k, id = A.length + k := ⟨id - A.length, by omega⟩
    simp only [mirX] at ho ⊢
    rw [List.getElem?_append_right (by omega), Nat.add_sub_cancel_left] at ho ⊢
    match k with
    | 0 => simp only [List.getElem?_cons_zero, Option.some.injEq] at ho ⊢; subst ho; exact ⟨_, rfl, rfl, h1⟩
    | 1 => simp only [List.getElem?_cons_succ, List.getElem?_cons_zero, Option.some.injEq] at ho ⊢; subst ho; exact ⟨_, rfl, rfl, h2⟩
    | 2 => simp only [List.getElem?_cons_succ, List.getElem?_cons_zero, Option.some.injEq] at ho ⊢; subst ho; exact ⟨_, rfl, rfl, h3⟩
    | k + 3 =>
      simp only [List.getElem?_cons_succ] at ho ⊢
      exact ⟨o1, ho, rfl, hm.self⟩
theorem mOk.objF {kd : KD} {s : List (V × V)} {x x' : MX} {S S1 : Store} (h : mOk kd s) (hx : XF S S1 x x') : objF S S1 (mapO kd s x) (some (.mp ⟨kd, s, x'⟩)) :=
  ⟨_, rfl, hx, rfl, rfl, fun p hp => (h p hp).1, fun i p1 p h1 h2 => by
    rw [h1] at h2; cases h2
    obtain ⟨_, i1, i2⟩ := h p1 (List.mem_of_getElem? h1)
    exact ⟨.imm i1, .imm i2⟩⟩
end
theorem objN.mono {n m : Nat} (h : n ≤ m) {o : AL.Obj} (k : objN n o) : objN m o := by
  obtain ⟨ver, st⟩ := o
  have up : ∀ v : V, v.under n = true → v.under m = true := fun v hv => by
    have := V.allUnder_le h (r := [v]) (by simp [V.allUnder, hv])
    simpa [V.allUnder] using this
  cases st with
  | none => trivial
  | some ct =>
    cases ct with
    | arr e sz rows => exact fun r hr => ⟨(k r hr).1, V.allUnder_le h (k r hr).2⟩
    | mp mm => exact ⟨fun p hp => ⟨up _ (k.1 p hp).1, up _ (k.1 p hp).2.1, (k.1 p hp).2.2⟩, fun of p hp => ⟨up _ (k.2 of p hp).1, up _ (k.2 of p hp).2⟩⟩

end Go.Proofs.Ythdcajfjglgiiaa
