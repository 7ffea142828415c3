/- A contract out of a callee's own contract, where the world stands. -/
import Derived.Test.YtiihkfjbllpiaaaGreatDoorWAlS
namespace Go.AL
set_option linter.unusedSectionVars false
variable [Mode]
set_option linter.unusedSimpArgs false
set_option linter.unusedVariables false
theorem VRs.two {ρ : Place} {S : Store} {w : World} {a b : V} {us : Array Value} (h : VRs ρ S w [a,b] us) : ∃ u x,us = #[u,x] ∧ VR ρ S w false a u ∧ VR ρ S w false b x:=by
  obtain ⟨h1,h2⟩:=h
  obtain ⟨u,hu,hu'⟩:=h2 0 a rfl
  obtain ⟨x,hx,hx'⟩:=h2 1 b rfl
  refine ⟨u,x,?_,hu',hx'⟩
  obtain ⟨l⟩:=us
  simp at h1 hu hx
  match l,h1 with
  | [p,q],_=>simp at hu hx;rw[hu,hx]
inductive V.Ok : V → Prop
  | str {l : List UInt8} (h : l.length ≤ maxLen) : V.Ok (.str l)
  | sl {sz : Nat} {rows : List (List V)} (h : rows.length ≤ maxLen) (hr : ∀ (i : Nat) (r : List V),rows[i]? = some r → ∀ (j : Nat) (v : V),r[j]? = some v → V.Ok v) : V.Ok (.sl sz rows)
  | cptr {vs : List V} (hr : ∀ (j : Nat) (v : V),vs[j]? = some v → V.Ok v) : V.Ok (.cptr vs)
  | agg {vs : List V} (hr : ∀ (j : Nat) (v : V),vs[j]? = some v → V.Ok v) : V.Ok (.agg vs)
  | tup {vs : List V} (hr : ∀ (j : Nat) (v : V),vs[j]? = some v → V.Ok v) : V.Ok (.tup vs)
  | iface {t : TypeId} {v : V} (h : V.Ok v) : V.Ok (.iface t v)
  | rest {v : V} (h : (match v with | .str _ | .sl .. | .cptr _ | .agg _ | .tup _ | .iface .. => false | _=>true) = true) : V.Ok v
theorem VR.ok {ρ : Place} {S : Store} {w : World} {b : Bool} {v : V} {u : Value} (hv : VR ρ S w b v u) : V.Ok v:=by
  induction hv with
  | str h1 h2=>exact .str (by rw[← h1,Array.length_toList];exact h2)
  | slNil=>exact .sl (Nat.zero_le _) (fun i r hi=>by simp at hi)
  | sl c hu hlen hcap hmax hsz hc hv h1 ih=>exact .sl (by omega) ih
  | cptr c hu hc hv h1 ih=>exact .cptr ih
  | agg c hl hc hv ih=>exact .agg ih
  | tup c hl hc hv ih=>exact .tup ih
  | iface h ih=>exact .iface ih
  | _=>exact .rest rfl
end Go.AL
