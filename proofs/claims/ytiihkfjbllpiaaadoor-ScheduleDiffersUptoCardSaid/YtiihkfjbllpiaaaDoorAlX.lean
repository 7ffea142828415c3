/- A contract out of a callee's own contract, where the world stands. -/
import Derived.Test.YtiihkfjbllpiaaaDoorAlS
namespace Go.AL
set_option linter.unusedSectionVars false
variable [Mode]
set_option linter.unusedSimpArgs false
set_option linter.unusedVariables false
theorem CallA.of_same {P : Program} {f : FuncId} {args : List V} {S : Store} {r : V} (hc : callable P f)
    (h : ∀ (ρ : Place) (w : World) (us : Array Value), VRs ρ S w args us → ∃ u, VR ρ S w false r u ∧ Calls P f us w fun en w' => en = .returned u ∧ w' = w) : CallA P f args S fun r' S' => r' = r ∧ S' = S := by
  refine ⟨hc, fun ρ w us hi hv => ?_⟩
  obtain ⟨u, h1, h2⟩ := h ρ w us hv
  refine h2.mono fun en w' ⟨e1, e2⟩ => ?_
  subst e1 e2
  exact ⟨ρ, S, r, u, rfl, h1, hi, Ext.refl ρ S _, rfl, rfl⟩

theorem VRs.two {ρ : Place} {S : Store} {w : World} {a b : V} {us : Array Value} (h : VRs ρ S w [a, b] us) : ∃ u x, us = #[u, x] ∧ VR ρ S w false a u ∧ VR ρ S w false b x := by
  obtain ⟨h1, h2⟩ := h
  obtain ⟨u, hu, hu'⟩ := h2 0 a rfl
  obtain ⟨x, hx, hx'⟩ := h2 1 b rfl
  refine ⟨u, x, ?_, hu', hx'⟩
  obtain ⟨l⟩ := us
  simp at h1 hu hx
  match l, h1 with
  | [p, q], _ => simp at hu hx; rw [hu, hx]

/-- At the head of a loop, a variable that is a nil slice may be told as a slice of no elements. -/
theorem LoopA.weakNil {P : Program} {N : Nat} {σ : Base} {b : ACode} {Q : Exit → Env → Store → Prop} {E : Env} {S : Store} (k sz : Nat) (hk : E.get k = .nilSl) (h : LoopA P N σ b Q ((k, .sl sz []) :: E) S) : LoopA P N σ b Q E S := by
  intro c own hc ρ a w hx hr
  refine h c own hc _ a w hx ⟨hr.inv, hr.defers, hr.size, fun j => ?_⟩
  simp only [Env.get]
  by_cases hj : j = k
  · subst hj
    rw [if_pos rfl]
    have := hr.slots j
    rw [hk] at this
    generalize a.tmps.getD j Go.undef = u at this
    cases this
    exact .slNil
  · rw [if_neg hj]
    exact hr.slots j

/-- What is in memory has a length that memory can hold. -/
inductive V.Ok : V → Prop
  | str {l : List UInt8} (h : l.length ≤ maxLen) : V.Ok (.str l)
  | sl {sz : Nat} {rows : List (List V)} (h : rows.length ≤ maxLen) (hr : ∀ (i : Nat) (r : List V), rows[i]? = some r → ∀ (j : Nat) (v : V), r[j]? = some v → V.Ok v) : V.Ok (.sl sz rows)
  | cptr {vs : List V} (hr : ∀ (j : Nat) (v : V), vs[j]? = some v → V.Ok v) : V.Ok (.cptr vs)
  | agg {vs : List V} (hr : ∀ (j : Nat) (v : V), vs[j]? = some v → V.Ok v) : V.Ok (.agg vs)
  | tup {vs : List V} (hr : ∀ (j : Nat) (v : V), vs[j]? = some v → V.Ok v) : V.Ok (.tup vs)
  | iface {t : TypeId} {v : V} (h : V.Ok v) : V.Ok (.iface t v)
  | rest {v : V} (h : (match v with | .str _ | .sl .. | .cptr _ | .agg _ | .tup _ | .iface .. => false | _ => true) = true) : V.Ok v

theorem VR.ok {ρ : Place} {S : Store} {w : World} {b : Bool} {v : V} {u : Value} (hv : VR ρ S w b v u) : V.Ok v := by
  induction hv with
  | str h1 h2 => exact .str (by rw [← h1, Array.length_toList]; exact h2)
  | slNil => exact .sl (Nat.zero_le _) (fun i r hi => by simp at hi)
  | sl c hu hlen hcap hmax hsz hc hv h1 ih => exact .sl (by omega) ih
  | cptr c hu hc hv h1 ih => exact .cptr ih
  | agg c hl hc hv ih => exact .agg ih
  | tup c hl hc hv ih => exact .tup ih
  | iface h ih => exact .iface ih
  | _ => exact .rest rfl

theorem CallA.withOk {P : Program} {own : Hint} {f : FuncId} {fn : Func} {af : AFun} {args : List V} {S : Store} {R : V → Store → Prop} (hf : P.funcs[f]? = some fn) (hc : compF P own fn = some af)
    (h : (∀ v ∈ args, V.Ok v) → CallA P f args S R) : CallA P f args S R := by
  refine ⟨?_, fun ρ w us hi hv => (h fun v hm => ?_).2 ρ w us hi hv⟩
  · obtain ⟨c, hb, hname, _⟩ := compF_some hc
    exact ⟨fn, hf, hname, by simp [hb]⟩
  · obtain ⟨j, hj⟩ := List.getElem?_of_mem hm
    obtain ⟨u, _, hu⟩ := hv.2 j v hj
    exact hu.ok
end Go.AL
