/- A mirror in the store: three maps and the struct; what lies around it stands. -/
import Derived.Test.YtlnpfnoemhjheaaGreatDoorMAlM
import Derived.Test.YtlnpfnoemhjheaaGreatDoorMRec3
namespace Go.Proofs.YtlnpfnoemhjheaaGreatDoor
open Go Go.AL
set_option linter.unusedSectionVars false
variable [Go.AL.Mode] [Go.AL.LooseM]
set_option linter.unusedSimpArgs false
set_option linter.unusedVariables false
def mapO (kd : KD) (s : List (V × V)) (x : MX) : AL.Obj := ⟨0, some (.mp ⟨kd, s, x⟩)⟩
def mirX (A B : Store) (s : List (V × V)) (x : MX) (q c : List (V × V)) (n : Int) : Store :=
  A ++ (mapO (.st [.int .i64, .int .i64]) s x :: mapO (.one (.int .i64)) q .free :: mapO (.one (.int .i64)) c .free :: ⟨0, some (.arr 86 4 [[.mapv A.length 0, .mapv (A.length + 1) 0, .mapv (A.length + 2) 0, .int .i64 n]])⟩ :: B)
def mxN (A B : Store) : Nat := A.length + (B.length + 4)
section
variable {A B L : Store} {s q c s' q' c' : List (V × V)} {x x' : MX} {n n' : Int} {k ver : Nat} {o : AL.Obj}
theorem mx_len : (mirX A B s x q c n).length = mxN A B := by simp [mirX, mxN]
theorem mx_app : mirX A B s x q c n ++ L = mirX A (B ++ L) s x q c n := by simp [mirX]
theorem mx_mp0 : Store.mp? (mirX A B s x q c n) A.length 0 = some (.st [.int .i64, .int .i64], s, x) := by rw [mirX, mp_app0]; rfl
theorem mx_mp1 : Store.mp? (mirX A B s x q c n) (A.length + 1) 0 = some (.one (.int .i64), q, .free) := by rw [mirX, mp_app]; rfl
theorem mx_mp2 : Store.mp? (mirX A B s x q c n) (A.length + 2) 0 = some (.one (.int .i64), c, .free) := by rw [mirX, mp_app]; rfl
theorem mx_ob3 : Store.obj? (mirX A B s x q c n) (A.length + 3) 0 = some (86, 4, [[.mapv A.length 0, .mapv (A.length + 1) 0, .mapv (A.length + 2) 0, .int .i64 n]]) := by rw [mirX, ob_app]; rfl
theorem mx_se0 : (mirX A B s x q c n).set A.length ⟨0, some (.mp ⟨.st [.int .i64, .int .i64], s', x'⟩)⟩ = mirX A B s' x' q c n := by rw [mirX, se_app0]; rfl
theorem mx_se1 : (mirX A B s x q c n).set (A.length + 1) ⟨0, some (.mp ⟨.one (.int .i64), q', .free⟩)⟩ = mirX A B s x q' c n := by rw [mirX, se_app]; rfl
theorem mx_se2 : (mirX A B s x q c n).set (A.length + 2) ⟨0, some (.mp ⟨.one (.int .i64), c', .free⟩)⟩ = mirX A B s x q c' n := by rw [mirX, se_app]; rfl
theorem mx_se3 : (mirX A B s x q c n).set (A.length + 3) ⟨0, some (.arr 86 4 [[.mapv A.length 0, .mapv (A.length + 1) 0, .mapv (A.length + 2) 0, .int .i64 n']])⟩ = mirX A B s x q c n' := by rw [mirX, se_app]; rfl
theorem ml_mp0 : Store.mp? (mirX A B s x q c n ++ L) A.length 0 = some (.st [.int .i64, .int .i64], s, x) := by rw [mx_app, mx_mp0]
theorem ml_mp1 : Store.mp? (mirX A B s x q c n ++ L) (A.length + 1) 0 = some (.one (.int .i64), q, .free) := by rw [mx_app, mx_mp1]
theorem ml_mp2 : Store.mp? (mirX A B s x q c n ++ L) (A.length + 2) 0 = some (.one (.int .i64), c, .free) := by rw [mx_app, mx_mp2]
theorem ml_ob3 : Store.obj? (mirX A B s x q c n ++ L) (A.length + 3) 0 = some (86, 4, [[.mapv A.length 0, .mapv (A.length + 1) 0, .mapv (A.length + 2) 0, .int .i64 n]]) := by rw [mx_app, mx_ob3]
theorem ml_se0 : (mirX A B s x q c n ++ L : Store).set A.length ⟨0, some (.mp ⟨.st [.int .i64, .int .i64], s', x'⟩)⟩ = mirX A B s' x' q c n ++ L := by rw [mx_app, mx_se0, mx_app]
theorem ml_se1 : (mirX A B s x q c n ++ L : Store).set (A.length + 1) ⟨0, some (.mp ⟨.one (.int .i64), q', .free⟩)⟩ = mirX A B s x q' c n ++ L := by rw [mx_app, mx_se1, mx_app]
theorem ml_se2 : (mirX A B s x q c n ++ L : Store).set (A.length + 2) ⟨0, some (.mp ⟨.one (.int .i64), c', .free⟩)⟩ = mirX A B s x q c' n ++ L := by rw [mx_app, mx_se2, mx_app]
theorem ml_se3 : (mirX A B s x q c n ++ L : Store).set (A.length + 3) ⟨0, some (.arr 86 4 [[.mapv A.length 0, .mapv (A.length + 1) 0, .mapv (A.length + 2) 0, .int .i64 n']])⟩ = mirX A B s x q c n' ++ L := by rw [mx_app, mx_se3, mx_app]
theorem mn_ob : Store.obj? (mirX A B s x q c n ++ L) (mxN A B + k) ver = Store.obj? L k ver := by rw [← mx_len (s := s) (x := x) (q := q) (c := c) (n := n), ob_app]
theorem mn_ob0 : Store.obj? (mirX A B s x q c n ++ L) (mxN A B) ver = Store.obj? L 0 ver := by rw [← mx_len (s := s) (x := x) (q := q) (c := c) (n := n), ob_app0]
theorem mn_mp : Store.mp? (mirX A B s x q c n ++ L) (mxN A B + k) ver = Store.mp? L k ver := by rw [← mx_len (s := s) (x := x) (q := q) (c := c) (n := n), mp_app]
theorem mn_mp0 : Store.mp? (mirX A B s x q c n ++ L) (mxN A B) ver = Store.mp? L 0 ver := by rw [← mx_len (s := s) (x := x) (q := q) (c := c) (n := n), mp_app0]
theorem mn_se : (mirX A B s x q c n ++ L : Store).set (mxN A B + k) o = mirX A B s x q c n ++ L.set k o := by rw [← mx_len (s := s) (x := x) (q := q) (c := c) (n := n), se_app]
theorem mn_se0 : (mirX A B s x q c n ++ L : Store).set (mxN A B) o = mirX A B s x q c n ++ L.set 0 o := by rw [← mx_len (s := s) (x := x) (q := q) (c := c) (n := n), se_app0]
end
theorem evM : ((type_of% @mx_len) ∧ (type_of% @mx_mp0) ∧ (type_of% @mx_mp1) ∧ (type_of% @mx_mp2) ∧ (type_of% @mx_ob3)) ∧ ((type_of% @mx_se0) ∧ (type_of% @mx_se1) ∧ (type_of% @mx_se2) ∧ (type_of% @mx_se3)) ∧ ((type_of% @ml_mp0) ∧ (type_of% @ml_mp1) ∧ (type_of% @ml_mp2) ∧ (type_of% @ml_ob3)) ∧ ((type_of% @ml_se0) ∧ (type_of% @ml_se1) ∧ (type_of% @ml_se2) ∧ (type_of% @ml_se3)) ∧ ((type_of% @mn_ob) ∧ (type_of% @mn_ob0) ∧ (type_of% @mn_mp) ∧ (type_of% @mn_mp0) ∧ (type_of% @mn_se) ∧ (type_of% @mn_se0)) :=
  ⟨⟨@mx_len, @mx_mp0, @mx_mp1, @mx_mp2, @mx_ob3⟩, ⟨@mx_se0, @mx_se1, @mx_se2, @mx_se3⟩, ⟨@ml_mp0, @ml_mp1, @ml_mp2, @ml_ob3⟩, ⟨@ml_se0, @ml_se1, @ml_se2, @ml_se3⟩, @mn_ob, @mn_ob0, @mn_mp, @mn_mp0, @mn_se, @mn_se0⟩
def objN (n : Nat) (o : AL.Obj) : Prop := match o.st with
  | none => True
  | some (.arr e sz rows) => ∀ r ∈ rows, r.length = sz ∧ V.allUnder n r = true
  | some (.mp m) => (∀ p ∈ m.rows, p.1.under n = true ∧ p.2.under n = true ∧ isKV m.kd p.1 = true) ∧ ∀ of p, m.x = .iter of (some p) → p.1.under n = true ∧ p.2.under n = true
theorem neat_iff {S : Store} : Neat S ↔ ∀ o ∈ S, objN S.length o := by
  constructor
  · intro h o ho
    obtain ⟨id, hid⟩ := List.getElem?_of_mem ho
    obtain ⟨ver, st⟩ := o
    cases st with
    | none => trivial
    | some ct =>
      cases ct with
      | arr e sz rows => exact h.1 id ver e sz rows hid
      | mp m => exact h.2 id ver m hid
  · intro h
    refine ⟨fun id ver e sz rows hid => ?_, fun id ver m hid => ?_⟩
    · exact h _ (List.mem_of_getElem? hid)
    · exact h _ (List.mem_of_getElem? hid)
theorem objN.self {S S1 : Store} {o : AL.Obj} (h : objN S1.length o) : objF S S1 o o.st := by
  obtain ⟨ver, st⟩ := o
  cases st with
  | none => trivial
  | some ct =>
    cases ct with
    | arr e sz rows => exact ⟨rows, rfl, .under h⟩
    | mp m =>
      refine ⟨m, rfl, .same fun of p hp => .inl (h.2 of p hp), rfl, rfl, fun p hp => (h.1 p hp).2.2, fun i p1 p h1 h2 => ?_⟩
      rw [h1] at h2
      cases h2
      obtain ⟨k1, k2, _⟩ := h.1 p1 (List.mem_of_getElem? h1)
      exact ⟨.same (.inl k1), .same (.inl k2)⟩
def mOk (kd : KD) (s : List (V × V)) : Prop := ∀ p ∈ s, isKV kd p.1 = true ∧ p.1.isImm = true ∧ p.2.isImm = true
theorem mOk.objN {kd : KD} {s : List (V × V)} {x : MX} {k : Nat} (h : mOk kd s) (hx : x.isIt = false) : objN k (mapO kd s x) := by
  refine ⟨fun p hp => ?_, fun of p hp => by simp only at hp; rw [hp] at hx; cases hx⟩
  obtain ⟨h1, h2, h3⟩ := h p hp
  exact ⟨isImm_under _ h2, isImm_under _ h3, h1⟩
section
variable {A B T : Store} {s q c s' q' c' : List (V × V)} {x x' : MX} {n n' : Int}
theorem mirX_neat (h : Neat (mirX A B s x q c n)) (h1 : mOk (.st [.int .i64, .int .i64]) s') (h2 : mOk (.one (.int .i64)) q') (h3 : mOk (.one (.int .i64)) c') (hx : x'.isIt = false) : Neat (mirX A B s' x' q' c' n') := by
  rw [neat_iff] at h ⊢
  rw [mx_len] at h ⊢
  intro o ho
  simp only [mirX, List.mem_append, List.mem_cons] at h ho
  rcases ho with ho | rfl | rfl | rfl | rfl | ho
  · exact h o (.inl ho)
  · exact h1.objN hx
  · exact h2.objN rfl
  · exact h3.objN rfl
  · intro r hr
    simp only [List.mem_singleton] at hr
    subst hr
    refine ⟨rfl, ?_⟩
    have e0 : A.length < mxN A B := by unfold mxN; omega
    have e1 : A.length + 1 < mxN A B := by unfold mxN; omega
    have e2 : A.length + 2 < mxN A B := by unfold mxN; omega
    simp [V.allUnder, V.under, e0, e1, e2]
  · exact h o (.inr (.inr (.inr (.inr (.inr ho)))))
theorem mOk.objF {kd : KD} {s : List (V × V)} {x x' : MX} {S S1 : Store} (h : mOk kd s) (hx : XF S S1 x x') : objF S S1 (mapO kd s x) (some (.mp ⟨kd, s, x'⟩)) :=
  ⟨_, rfl, hx, rfl, rfl, fun p hp => (h p hp).1, fun i p1 p h1 h2 => by
    rw [h1] at h2; cases h2
    obtain ⟨_, i1, i2⟩ := h p1 (List.mem_of_getElem? h1)
    exact ⟨.imm i1, .imm i2⟩⟩
end
theorem objN.mono {n m : Nat} (h : n ≤ m) {o : AL.Obj} (k : objN n o) : objN m o := by
  obtain ⟨ver, st⟩ := o
  have up : ∀ v : V, v.under n = true → v.under m = true := fun v hv => by
    have := V.allUnder_le h (r := [v]) (by simp [V.allUnder, hv])
    simpa [V.allUnder] using this
  cases st with
  | none => trivial
  | some ct =>
    cases ct with
    | arr e sz rows => exact fun r hr => ⟨(k r hr).1, V.allUnder_le h (k r hr).2⟩
    | mp mm => exact ⟨fun p hp => ⟨up _ (k.1 p hp).1, up _ (k.1 p hp).2.1, (k.1 p hp).2.2⟩, fun of p hp => ⟨up _ (k.2 of p hp).1, up _ (k.2 of p hp).2⟩⟩
end Go.Proofs.YtlnpfnoemhjheaaGreatDoor
/- What a mirror knows, plainly. -/
namespace Go.Proofs.YtlnpfnoemhjheaaGreatDoor
open Go Go.AL
set_option linter.unusedSectionVars false
variable [Go.AL.Mode] [Go.AL.LooseM]
set_option linter.unusedSimpArgs false
set_option linter.unusedVariables false
abbrev Rw := St × Nat
structure Mi where
  R : List Rw
  N : Nat
def entM (r : Rw) : V × V := (keyV r.1, .agg [.int .i64 r.1.t, .int .i64 r.1.c, .int .i64 r.1.v, .int .i64 r.1.s, .int .i64 (r.2 : Nat)])
def entQ (p : Nat × Int × Int) : V × V := (.int .i64 (p.1 : Nat), .agg [.int .i64 p.2.1, .int .i64 p.2.2])
def entC (p : Nat × List St) : V × V := (.int .i64 (p.1 : Nat), stSl p.2)
def findR (R : List Rw) (x : St) : Option Rw := R.find? fun r => sameS x r.1
def updR (x : St) (n : Nat) : List Rw → List Rw
  | [] => [(x, n)]
  | r :: l => if sameS x r.1 then (x, n) :: l else r :: updR x n l
def recM (M : Mi) (x : St) : Mi := ⟨updR x (M.N + 1) M.R, M.N + 1⟩
theorem find_entM (x : St) : ∀ (R : List Rw), findV (keyV x) (R.map entM) = (findR R x).map fun r => (entM r).2
  | [] => rfl
  | r :: R => by
    rw [List.map_cons, findV, findR, List.find?_cons]
    show (if eqKV (keyV x) (keyV r.1) = true then _ else _) = _
    rw [eqKV_key]
    cases sameS x r.1
    · simpa [findR] using find_entM x R
    · rfl
theorem put_entM (x : St) (n : Nat) : ∀ (R : List Rw), putV (keyV x) (entM (x, n)).2 (R.map entM) = (updR x n R).map entM
  | [] => rfl
  | r :: R => by
    rw [List.map_cons, putV, updR]
    show (if eqKV (keyV x) (keyV r.1) = true then _ else _) = _
    rw [eqKV_key]
    cases sameS x r.1
    · simp only [Bool.false_eq_true, if_false, put_entM x n R]; rfl
    · rfl
def fQ (Q : List (Nat × Int × Int)) (n : Nat) : Option (Nat × Int × Int) := Q.find? fun p => decide (n = p.1)
def putQ (n : Nat) (k : Int × Int) : List (Nat × Int × Int) → List (Nat × Int × Int)
  | [] => [(n, k)]
  | p :: l => if n = p.1 then (n, k) :: l else p :: putQ n k l
def delQ (n : Nat) : List (Nat × Int × Int) → List (Nat × Int × Int)
  | [] => []
  | p :: l => if n = p.1 then l else p :: delQ n l
theorem eqKV_nat (a b : Nat) : eqKV (.int .i64 (a : Nat)) (.int .i64 (b : Nat)) = decide (a = b) := by
  rw [eqKV_int]; apply decide_eq_decide.2; omega
theorem put_entQ (n : Nat) (k : Int × Int) : ∀ (Q : List (Nat × Int × Int)), putV (.int .i64 (n : Nat)) (entQ (n, k)).2 (Q.map entQ) = (putQ n k Q).map entQ
  | [] => rfl
  | p :: Q => by
    rw [List.map_cons, putV, putQ]
    show (if eqKV (.int .i64 (n : Nat)) (.int .i64 (p.1 : Nat)) = true then _ else _) = _
    rw [eqKV_nat]
    by_cases h : n = p.1
    · simp only [h, decide_true, if_true]; rfl
    · simp only [h, decide_false, if_false, Bool.false_eq_true, put_entQ n k Q]; rfl
theorem del_entQ (n : Nat) : ∀ (Q : List (Nat × Int × Int)), delV (.int .i64 (n : Nat)) (Q.map entQ) = (delQ n Q).map entQ
  | [] => rfl
  | p :: Q => by
    rw [List.map_cons, delV, delQ]
    show (if eqKV (.int .i64 (n : Nat)) (.int .i64 (p.1 : Nat)) = true then _ else _) = _
    rw [eqKV_nat]
    by_cases h : n = p.1
    · simp only [h, decide_true, if_true]
    · simp only [h, decide_false, if_false, Bool.false_eq_true, del_entQ n Q]; rfl
structure QOk (R : List Rw) (Q : List (Nat × Int × Int)) : Prop where
  uniq : Q.Pairwise fun p q => p.1 ≠ q.1
  find : ∀ n : Nat, (fQ Q n).map (·.2) = (R.find? fun r => decide (n = r.2)).map fun r => (r.1.t, r.1.c)
structure WF (M : Mi) : Prop where
  apart : M.R.Pairwise fun r q => sameS r.1 q.1 = false
  ats : M.R.Pairwise fun r q => r.2 ≠ q.2
  low : ∀ r ∈ M.R, 1 ≤ r.2 ∧ r.2 ≤ M.N
  len : M.R.length ≤ M.N
theorem fQ_put (n m : Nat) (k : Int × Int) : ∀ (Q : List (Nat × Int × Int)), fQ (putQ n k Q) m = if m = n then some (n, k) else fQ Q m
  | [] => by simp [fQ, putQ, List.find?_cons]; by_cases h : m = n <;> simp [h]
  | p :: Q => by
    have ih := fQ_put n m k Q
    unfold fQ at ih ⊢
    rw [putQ]
    by_cases h : n = p.1
    · rw [if_pos h, List.find?_cons, List.find?_cons]
      by_cases hm : m = n
      · simp [hm]
      · have : ¬ m = p.1 := by omega
        simp [hm, this]
    · rw [if_neg h, List.find?_cons, List.find?_cons, ih]
      by_cases hm : m = n
      · subst hm; simp [h]
      · simp [hm]
theorem fQ_del (n m : Nat) : ∀ {Q : List (Nat × Int × Int)}, (Q.Pairwise fun p q => p.1 ≠ q.1) → fQ (delQ n Q) m = if m = n then none else fQ Q m
  | [], _ => by simp [fQ, delQ]
  | p :: Q, h => by
    rw [List.pairwise_cons] at h
    have ih := fQ_del n m h.2
    unfold fQ at ih ⊢
    rw [delQ]
    by_cases hn : n = p.1
    · rw [if_pos hn, List.find?_cons]
      by_cases hm : m = n
      · subst hm
        rw [if_pos rfl, List.find?_eq_none]
        intro q hq
        have := h.1 q hq
        simp only [decide_eq_true_eq]
        omega
      · have : ¬ m = p.1 := by omega
        simp [hm, this]
    · rw [if_neg hn, List.find?_cons, List.find?_cons, ih]
      by_cases hm : m = n
      · subst hm; simp [hn]
      · simp [hm]
theorem putQ_mem {n : Nat} {k : Int × Int} {a : Nat × Int × Int} : ∀ {Q : List (Nat × Int × Int)}, a ∈ putQ n k Q → a = (n, k) ∨ a ∈ Q
  | [], h => by simp only [putQ, List.mem_singleton] at h; exact .inl h
  | p :: Q, h => by
    rw [putQ] at h
    split at h
    · rcases List.mem_cons.1 h with h | h
      · exact .inl h
      · exact .inr (List.mem_cons_of_mem _ h)
    · rcases List.mem_cons.1 h with h | h
      · exact .inr (by rw [h]; exact List.mem_cons_self ..)
      · exact (putQ_mem h).imp id (List.mem_cons_of_mem _)
theorem delQ_sub (n : Nat) : ∀ (Q : List (Nat × Int × Int)), (delQ n Q).Sublist Q
  | [] => .slnil
  | p :: Q => by
    rw [delQ]
    split
    · exact List.sublist_cons_self ..
    · exact (delQ_sub n Q).cons_cons _
theorem putQ_uniq {n : Nat} {k : Int × Int} : ∀ {Q : List (Nat × Int × Int)}, (Q.Pairwise fun p q => p.1 ≠ q.1) → (putQ n k Q).Pairwise fun p q => p.1 ≠ q.1
  | [], _ => List.pairwise_singleton ..
  | p :: Q, h => by
    rw [List.pairwise_cons] at h
    rw [putQ]
    by_cases hn : n = p.1
    · rw [if_pos hn, List.pairwise_cons]
      exact ⟨fun a ha => by simp only; rw [hn]; exact h.1 a ha, h.2⟩
    · rw [if_neg hn, List.pairwise_cons]
      refine ⟨fun a ha => ?_, putQ_uniq h.2⟩
      rcases putQ_mem ha with rfl | ha
      · exact fun e => hn e.symm
      · exact h.1 a ha
theorem updR_mem {x : St} {n : Nat} {a : Rw} : ∀ {R : List Rw}, a ∈ updR x n R → a = (x, n) ∨ a ∈ R
  | [], h => by simp only [updR, List.mem_singleton] at h; exact .inl h
  | r :: R, h => by
    rw [updR] at h
    split at h
    · rcases List.mem_cons.1 h with h | h
      · exact .inl h
      · exact .inr (List.mem_cons_of_mem _ h)
    · rcases List.mem_cons.1 h with h | h
      · exact .inr (by rw [h]; exact List.mem_cons_self ..)
      · exact (updR_mem h).imp id (List.mem_cons_of_mem _)
theorem updR_len {x : St} {n : Nat} : ∀ (R : List Rw), (updR x n R).length ≤ R.length + 1
  | [] => by simp [updR]
  | r :: R => by
    rw [updR]
    have := updR_len (x := x) (n := n) R
    split <;> simp only [List.length_cons] <;> omega
theorem updR_apart {x : St} {n : Nat} : ∀ {R : List Rw}, (R.Pairwise fun r q => sameS r.1 q.1 = false) → (updR x n R).Pairwise fun r q => sameS r.1 q.1 = false
  | [], _ => List.pairwise_singleton ..
  | r :: R, h => by
    rw [List.pairwise_cons] at h
    rw [updR]
    cases hs : sameS x r.1 with
    | true =>
      rw [if_pos rfl, List.pairwise_cons]
      exact ⟨fun a ha => by simp only; rw [same_same a.1 hs]; exact h.1 a ha, h.2⟩
    | false =>
      rw [if_neg (by simp), List.pairwise_cons]
      refine ⟨fun a ha => ?_, updR_apart h.2⟩
      rcases updR_mem ha with rfl | ha
      · rw [same_sym]; exact hs
      · exact h.1 a ha
theorem updR_ats {x : St} {n : Nat} : ∀ {R : List Rw}, (R.Pairwise fun r q => r.2 ≠ q.2) → (∀ r ∈ R, r.2 ≠ n) → (updR x n R).Pairwise fun r q => r.2 ≠ q.2
  | [], _, _ => List.pairwise_singleton ..
  | r :: R, h, hn => by
    rw [List.pairwise_cons] at h
    rw [updR]
    split
    · rw [List.pairwise_cons]
      exact ⟨fun a ha => fun e => hn a (List.mem_cons_of_mem _ ha) e.symm, h.2⟩
    · rw [List.pairwise_cons]
      refine ⟨fun a ha => ?_, updR_ats h.2 fun q hq => hn q (List.mem_cons_of_mem _ hq)⟩
      rcases updR_mem ha with rfl | ha
      · exact hn r (List.mem_cons_self ..)
      · exact h.1 a ha
theorem WF.step {M : Mi} (h : WF M) (x : St) : WF (recM M x) where
  apart := updR_apart h.apart
  ats := updR_ats h.ats fun r hr => by have := h.low r hr; omega
  low r hr := by
    rcases updR_mem hr with rfl | hr
    · exact ⟨by simp, Nat.le_refl _⟩
    · have := h.low r hr
      simp only [recM]
      omega
  len := by have := updR_len (x := x) (n := M.N + 1) M.R; have := h.len; simp only [recM]; omega
def fAt (R : List Rw) (n : Nat) : Option Rw := R.find? fun r => decide (n = r.2)
theorem fAt_upd {x : St} {n : Nat} (m : Nat) : ∀ {R : List Rw}, (R.Pairwise fun r q => sameS r.1 q.1 = false) → (R.Pairwise fun r q => r.2 ≠ q.2) → (∀ r ∈ R, r.2 ≠ n) →
    fAt (updR x n R) m = if m = n then some (x, n) else if (findR R x).map (·.2) = some m then none else fAt R m
  | [], _, _, _ => by unfold fAt updR findR; rw [List.find?_cons, List.find?_nil]; by_cases h : m = n <;> simp [h]
  | r :: R, ha, hb, hn => by
    rw [List.pairwise_cons] at ha hb
    have hr := hn r (List.mem_cons_self ..)
    have ih := fAt_upd (x := x) (n := n) m ha.2 hb.2 fun q hq => hn q (List.mem_cons_of_mem _ hq)
    unfold fAt findR at ih ⊢
    rw [updR]
    cases hs : sameS x r.1 with
    | true =>
      rw [if_pos rfl, List.find?_cons, List.find?_cons, List.find?_cons]
      simp only [hs, Option.map_some, Option.some.injEq]
      by_cases hm : m = n
      · simp [hm]
      · simp only [hm, decide_false, if_false]
        by_cases hm2 : r.2 = m
        · rw [if_pos hm2, List.find?_eq_none]
          intro q hq
          have := hb.1 q hq
          simp only [decide_eq_true_eq]
          omega
        · have : ¬ m = r.2 := fun e => hm2 e.symm
          simp [hm2, this]
    | false =>
      rw [if_neg (by simp), List.find?_cons, List.find?_cons, List.find?_cons, ih]
      simp only [hs]
      by_cases hm : m = r.2
      · subst hm
        simp only [decide_true, hr, if_false]
        rw [if_neg]
        intro h
        simp only [Option.map_eq_some_iff] at h
        obtain ⟨q, hq, he⟩ := h
        exact hb.1 q (List.mem_of_find?_eq_some hq) he.symm
      · simp [hm]
def recQ (M : Mi) (x : St) (Q : List (Nat × Int × Int)) : List (Nat × Int × Int) :=
  putQ (M.N + 1) (x.t, x.c) (match findR M.R x with
    | some r => delQ r.2 Q
    | none => Q)
theorem QOk.step {M : Mi} {Q : List (Nat × Int × Int)} (hw : WF M) (h : QOk M.R Q) (x : St) : QOk (recM M x).R (recQ M x Q) where
  uniq := by
    unfold recQ
    refine putQ_uniq ?_
    split
    · exact h.uniq.sublist (delQ_sub _ _)
    · exact h.uniq
  find n := by
    have hf := fAt_upd (x := x) (n := M.N + 1) n hw.apart hw.ats fun r hr => by have := hw.low r hr; omega
    unfold fAt at hf
    show _ = ((updR x (M.N + 1) M.R).find? _).map _
    rw [hf]
    unfold recQ
    rw [fQ_put]
    by_cases hn : n = M.N + 1
    · simp [hn]
    · simp only [hn, if_false]
      cases hg : findR M.R x with
      | none => simpa using h.find n
      | some r =>
        simp only [Option.map_some, Option.some.injEq]
        rw [fQ_del _ _ h.uniq]
        by_cases hr : n = r.2
        · simp [hr]
        · have : ¬ r.2 = n := fun e => hr e.symm
          simp only [hr, this, if_false]
          exact h.find n
def sinceL (M : Mi) (c : Nat) : List St := (List.range' (c + 1) (M.N - c)).filterMap fun n => (fAt M.R n).map (·.1)
def COk (M : Mi) (C : List (Nat × List St)) : Prop := ∀ p ∈ C, p.2 = sinceL M p.1
def Mi0 : Mi := ⟨[], 0⟩
theorem WF0 : WF Mi0 := ⟨.nil, .nil, fun r h => (by cases h), Nat.le_refl _⟩
theorem QOk0 : QOk [] [] := ⟨.nil, fun n => rfl⟩
theorem okM (R : List Rw) : mOk (.st [.int .i64, .int .i64]) (R.map entM) := fun p hp => by
  obtain ⟨r, _, rfl⟩ := List.mem_map.1 hp
  exact ⟨rfl, rfl, rfl⟩
theorem okQ (Q : List (Nat × Int × Int)) : mOk (.one (.int .i64)) (Q.map entQ) := fun p hp => by
  obtain ⟨r, _, rfl⟩ := List.mem_map.1 hp
  exact ⟨rfl, rfl, rfl⟩
theorem okC (C : List (Nat × List St)) : mOk (.one (.int .i64)) (C.map entC) := fun p hp => by
  obtain ⟨r, _, rfl⟩ := List.mem_map.1 hp
  exact ⟨rfl, rfl, rfl⟩
def mst (A B : Store) (M : Mi) (Q : List (Nat × Int × Int)) (C : List (Nat × List St)) : Store := mirX A B (M.R.map entM) .free (Q.map entQ) (C.map entC) (M.N : Nat)
theorem mst_neat {A B : Store} {M M' : Mi} {Q Q' : List (Nat × Int × Int)} {C C' : List (Nat × List St)} (h : Neat (mst A B M Q C)) : Neat (mst A B M' Q' C') := mirX_neat h (okM _) (okQ _) (okC _) rfl
def nx (s e : Int) : Int :=
  if s = 1 ∧ e = 1 then 2 else if (s = 1 ∧ e = 3) ∨ (s = 2 ∧ e = 3) ∨ (s = 4 ∧ e = 6) then 3 else if s = 1 ∧ e = 8 then 6 else if s = 1 ∧ e = 9 then 7 else if s = 1 ∧ e = 10 then 8
  else if (s = 2 ∧ e = 2) ∨ (s = 3 ∧ e = 4) then 1 else if s = 3 ∧ e = 5 then 4 else if s = 4 ∧ e = 7 then 5 else 0
def nextF (s e : Int) : Int × Int :=
  if s < 1 ∨ 8 < s ∨ e < 1 ∨ 10 < e then (0, 8) else if s = 2 ∧ 8 ≤ e then (0, 28) else if nx s e = 0 then (0, 27) else (nx s e, 0)
theorem fAt_self {r : Rw} : ∀ {R : List Rw}, (R.Pairwise fun r q => r.2 ≠ q.2) → r ∈ R → fAt R r.2 = some r
  | [], _, h => by cases h
  | q :: R, hp, hm => by
    rw [List.pairwise_cons] at hp
    unfold fAt
    rw [List.find?_cons]
    rcases List.mem_cons.1 hm with rfl | hm
    · simp
    · have hne : ¬ r.2 = q.2 := fun e => hp.1 r hm e.symm
      simp only [hne, decide_false]
      exact fAt_self hp.2 hm
theorem WF.find_at {M : Mi} (h : WF M) {n : Nat} {r : Rw} (hr : fAt M.R n = some r) : findR M.R ⟨r.1.t, r.1.c, 0, 0⟩ = some r := by
  have hm := List.mem_of_find?_eq_some hr
  have key : ∀ (R : List Rw), (R.Pairwise fun r q => sameS r.1 q.1 = false) → r ∈ R → findR R r.1 = some r := by
    intro R
    induction R with
    | nil => intro _ h; cases h
    | cons q R ih =>
      intro hp hm
      rw [List.pairwise_cons] at hp
      unfold findR at ih ⊢
      rw [List.find?_cons]
      rcases List.mem_cons.1 hm with rfl | hm
      · rw [same_self]
      · have := hp.1 r hm
        rw [same_sym] at this
        rw [this]
        exact ih hp.2 hm
  exact key M.R h.apart hm
theorem WF.find_mem {M : Mi} (h : WF M) {r : Rw} (hm : r ∈ M.R) : findR M.R r.1 = some r := by
  have := h.find_at (n := r.2) (r := r) (fAt_self h.ats hm)
  exact this
theorem mst_len {A B : Store} {M : Mi} {Q : List (Nat × Int × Int)} {C : List (Nat × List St)} : (mst A B M Q C).length = mxN A B := mx_len
theorem mst_app {A B L : Store} {M : Mi} {Q : List (Nat × Int × Int)} {C : List (Nat × List St)} : mst A B M Q C ++ L = mst A (B ++ L) M Q C := mx_app
end Go.Proofs.YtlnpfnoemhjheaaGreatDoor
