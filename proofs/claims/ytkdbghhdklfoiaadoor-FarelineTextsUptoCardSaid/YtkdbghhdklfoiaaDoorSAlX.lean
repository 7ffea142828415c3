/- A contract out of a callee's own contract, where the world stands. -/
import Derived.Test.YtkdbghhdklfoiaaDoorSAlH
namespace Go.AL
set_option linter.unusedSectionVars false
variable [Mode]
set_option linter.unusedSimpArgs false
set_option linter.unusedVariables false
theorem CallA.of_same {P : Program} {f : FuncId} {args : List V} {S : Store} {r : V} (hc : callable P f)
    (h : ∀ (ρ : Place) (w : World) (us : Array Value), VRs ρ S w args us → ∃ u, VR ρ S w false r u ∧ Calls P f us w fun en w' => en = .returned u ∧ w' = w) : CallA P f args S fun r' S' => r' = r ∧ S' = S := by
  refine ⟨hc, fun ρ w us hi hv => ?_⟩
  obtain ⟨u, h1, h2⟩ := h ρ w us hv
  refine h2.mono fun en w' ⟨e1, e2⟩ => ?_
  subst e1 e2
  exact ⟨ρ, S, r, u, rfl, h1, hi, Ext.refl ρ S _, rfl, rfl⟩
theorem VRs.two {ρ : Place} {S : Store} {w : World} {a b : V} {us : Array Value} (h : VRs ρ S w [a, b] us) : ∃ u x, us = #[u, x] ∧ VR ρ S w false a u ∧ VR ρ S w false b x := by
  obtain ⟨h1, h2⟩ := h
  obtain ⟨u, hu, hu'⟩ := h2 0 a rfl
  obtain ⟨x, hx, hx'⟩ := h2 1 b rfl
  refine ⟨u, x, ?_, hu', hx'⟩
  obtain ⟨l⟩ := us
  simp at h1 hu hx
  match l, h1 with
  | [p, q], _ => simp at hu hx; rw [hu, hx]
inductive V.Ok : V → Prop
  | str {l : List UInt8} (h : l.length ≤ maxLen) : V.Ok (.str l)
  | sl {sz : Nat} {rows : List (List V)} (h : rows.length ≤ maxLen) (hr : ∀ (i : Nat) (r : List V), rows[i]? = some r → ∀ (j : Nat) (v : V), r[j]? = some v → V.Ok v) : V.Ok (.sl sz rows)
  | cptr {vs : List V} (hr : ∀ (j : Nat) (v : V), vs[j]? = some v → V.Ok v) : V.Ok (.cptr vs)
  | agg {vs : List V} (hr : ∀ (j : Nat) (v : V), vs[j]? = some v → V.Ok v) : V.Ok (.agg vs)
  | tup {vs : List V} (hr : ∀ (j : Nat) (v : V), vs[j]? = some v → V.Ok v) : V.Ok (.tup vs)
  | iface {t : TypeId} {v : V} (h : V.Ok v) : V.Ok (.iface t v)
  | rest {v : V} (h : (match v with | .str _ | .sl .. | .cptr _ | .agg _ | .tup _ | .iface .. => false | _ => true) = true) : V.Ok v
theorem VR.ok {ρ : Place} {S : Store} {w : World} {b : Bool} {v : V} {u : Value} (hv : VR ρ S w b v u) : V.Ok v := by
  induction hv with
  | str h1 h2 => exact .str (by rw [← h1, Array.length_toList]; exact h2)
  | slNil => exact .sl (Nat.zero_le _) (fun i r hi => by simp at hi)
  | sl c hu hlen hcap hmax hsz hc hv h1 ih => exact .sl (by omega) ih
  | cptr c hu hc hv h1 ih => exact .cptr ih
  | agg c hl hc hv ih => exact .agg ih
  | tup c hl hc hv ih => exact .tup ih
  | iface h ih => exact .iface ih
  | _ => exact .rest rfl
end Go.AL
/- Forgetting and freezing, object by object, behind a store that is neat. -/
namespace Go.AL
set_option linter.unusedSectionVars false
variable [Mode]
set_option linter.unusedSimpArgs false
set_option linter.unusedVariables false
def RowsF (S S1 : Store) (sz : Nat) (rows rows1 : List (List V)) : Prop :=
  rows1.length = rows.length ∧ (∀ r1 ∈ rows1, r1.length = sz) ∧
    ∀ (i : Nat) (r1 : List V), rows1[i]? = some r1 → ∀ (j : Nat) (v1 : V), r1[j]? = some v1 → ∀ (r : List V) (x : V), rows[i]? = some r → r[j]? = some x → Frz S S1 x v1
def objF (S S1 : Store) (o : Obj) : Option Cont → Prop
  | none => True
  | some (.arr t sz rows1) => ∃ rows, o.st = some (.arr t sz rows) ∧ RowsF S S1 sz rows rows1
  | some (.mp m1) => ∃ m, o.st = some (.mp m) ∧ XF S S1 m.x m1.x ∧ m1.kd = m.kd ∧ m1.rows.length = m.rows.length ∧ (∀ p ∈ m1.rows, isKV m1.kd p.1 = true) ∧ ∀ (i : Nat) (p1 p : V × V), m1.rows[i]? = some p1 → m.rows[i]? = some p → Frz S S1 p.1 p1.1 ∧ Frz S S1 p.2 p1.2
def FgtL (S S1 : Store) : Store → Store → Prop
  | _, [] => True
  | [], _ :: _ => False
  | o :: L, o1 :: L1 => o.ver = o1.ver ∧ objF S S1 o o1.st ∧ FgtL S S1 L L1
theorem FgtL.len {S S1 : Store} : ∀ {L L1 : Store}, FgtL S S1 L L1 → L1.length ≤ L.length
  | _, [], _ => Nat.zero_le _
  | [], _ :: _, h => h.elim
  | _ :: L, _ :: L1, h => Nat.succ_le_succ (FgtL.len (L := L) (L1 := L1) h.2.2)
theorem FgtL.get {S S1 : Store} : ∀ {L L1 : Store}, FgtL S S1 L L1 → ∀ (k : Nat) (o1 : Obj), L1[k]? = some o1 → ∃ o, L[k]? = some o ∧ o.ver = o1.ver ∧ objF S S1 o o1.st
  | _, [], _, k, o1, h1 => by simp at h1
  | [], _ :: _, h, _, _, _ => h.elim
  | o :: L, x :: L1, h, 0, o1, h1 => by
    simp only [List.getElem?_cons_zero, Option.some.injEq] at h1
    subst h1
    exact ⟨o, rfl, h.1, h.2.1⟩
  | _ :: L, _ :: L1, h, k + 1, o1, h1 => by
    simp only [List.getElem?_cons_succ] at h1 ⊢
    exact FgtL.get (L := L) (L1 := L1) h.2.2 k o1 h1
section
variable {S S1 : Store} {sz : Nat} {rows rows1 : List (List V)}
theorem RowsF.under (h : ∀ r ∈ rows, r.length = sz ∧ V.allUnder S1.length r = true) : RowsF S S1 sz rows rows :=
  ⟨rfl, fun r hr => (h r hr).1, fun i r hi j v hj r' x hi' hj' => by
    rw [hi] at hi'; cases hi'
    rw [hj] at hj'; cases hj'
    exact .same (.inl (V.allUnder_get (h r (List.mem_of_getElem? hi)).2 j v hj))⟩
theorem allImm_under : ∀ {l : List V} (n : Nat), V.allImm l = true → V.allUnder n l = true
  | [], _, _ => rfl
  | v :: r, n, h => by
    simp only [V.allImm, Bool.and_eq_true] at h
    simp only [V.allUnder, Bool.and_eq_true]
    exact ⟨isImm_under n h.1, allImm_under n h.2⟩
theorem RowsF.imm (h : ∀ r ∈ rows, r.length = sz ∧ V.allImm r = true) : RowsF S S1 sz rows rows :=
  .under fun r hr => ⟨(h r hr).1, allImm_under _ (h r hr).2⟩
theorem RowsF.nil : RowsF S S1 sz [] [] := .imm fun r h => by cases h
def CellsF (S S1 : Store) : List V → List V → Prop
  | [], [] => True
  | x :: r, v :: r1 => Frz S S1 x v ∧ CellsF S S1 r r1
  | _, _ => False
theorem CellsF.get : ∀ {r r1 : List V}, CellsF S S1 r r1 → r1.length = r.length ∧ ∀ (j : Nat) (v x : V), r1[j]? = some v → r[j]? = some x → Frz S S1 x v
  | [], [], _ => ⟨rfl, fun j v x h => by simp at h⟩
  | x :: r, v :: r1, h => by
    obtain ⟨a, b⟩ := CellsF.get (r := r) (r1 := r1) h.2
    refine ⟨by simp [a], fun j w y h1 h2 => ?_⟩
    cases j with
    | zero => simp at h1 h2; subst h1 h2; exact h.1
    | succ j => simp at h1 h2; exact b j w y h1 h2
  | [], _ :: _, h => h.elim
  | _ :: _, [], h => h.elim
end
def All2 {α : Type} (R : α → α → Prop) : List α → List α → Prop
  | [], [] => True
  | x :: l, y :: m => R x y ∧ All2 R l m
  | _, _ => False
theorem All2.get {α : Type} {R : α → α → Prop} : ∀ {l m : List α}, All2 R l m → m.length = l.length ∧ ∀ (i : Nat) (y : α), m[i]? = some y → ∃ x, l[i]? = some x ∧ R x y
  | [], [], _ => ⟨rfl, fun i y h => by simp at h⟩
  | x :: l, y :: m, h => by
    obtain ⟨a, b⟩ := All2.get (l := l) (m := m) h.2
    refine ⟨by simp [a], fun i z hz => ?_⟩
    cases i with
    | zero => simp at hz; subst hz; exact ⟨x, rfl, h.1⟩
    | succ i => simp at hz; simpa using b i z hz
  | [], _ :: _, h => h.elim
  | _ :: _, [], h => h.elim
theorem All2.refl {α : Type} {R : α → α → Prop} (h : ∀ x, R x x) : ∀ (l : List α), All2 R l l
  | [] => trivial
  | x :: l => ⟨h x, All2.refl h l⟩
inductive Wk : V → V → Prop
  | refl (v : V) : Wk v v
  | nil (sz : Nat) : Wk .nilSl (.sl sz [])
  | sl {sz : Nat} {rows rows1 : List (List V)} (hl : rows1.length = rows.length)
      (hz : ∀ (i : Nat) (r1 : List V), rows1[i]? = some r1 → ∀ r, rows[i]? = some r → r1.length = r.length)
      (h : ∀ (i : Nat) (r1 : List V), rows1[i]? = some r1 → ∀ (j : Nat) (y : V), r1[j]? = some y → ∀ r, rows[i]? = some r → ∀ x, r[j]? = some x → Wk x y) : Wk (.sl sz rows) (.sl sz rows1)
  | agg {vs ws : List V} (hl : ws.length = vs.length) (h : ∀ (j : Nat) (y : V), ws[j]? = some y → ∀ x, vs[j]? = some x → Wk x y) : Wk (.agg vs) (.agg ws)
  | tup {vs ws : List V} (hl : ws.length = vs.length) (h : ∀ (j : Nat) (y : V), ws[j]? = some y → ∀ x, vs[j]? = some x → Wk x y) : Wk (.tup vs) (.tup ws)
theorem CallA.killedL {P : Program} {S T : Store} {f : FuncId} {args args1 : List V} {R : V → Store → Prop} (hn : Neat S) (h : CallA P f args1 (S ++ kill T) R) (ha : All2 (Frz (S ++ T) (S ++ kill T)) args args1) : CallA P f args (S ++ T) R := by
  obtain ⟨h1, h2⟩ := ha.get
  refine CallA.killed hn h h1.symm fun j v1 v hj hv => ?_
  obtain ⟨x, hx, hk⟩ := h2 j v1 hj
  rw [hv] at hx
  cases hx
  exact hk
theorem Neat.self {S : Store} (h : Neat S) : Fgt S S := by simpa using h.fgt []
theorem back_under {S S1 : Store} (h : Fgt S S1) : ∀ {E1 E : Env}, sub E1 E → (E1.all fun p => p.2.under S1.length) = true → Back E1 S1 E S := by
  intro E1 E hs hu
  refine .inr ⟨h, ?_⟩
  induction E1 with
  | nil => trivial
  | cons p r ih =>
    obtain ⟨k, v⟩ := p
    simp only [List.all_cons, Bool.and_eq_true] at hu
    simp only [sub] at hs
    exact ⟨by rw [hs.1]; exact .same (.inl hu.1), ih hs.2 hu.2⟩
end Go.AL
