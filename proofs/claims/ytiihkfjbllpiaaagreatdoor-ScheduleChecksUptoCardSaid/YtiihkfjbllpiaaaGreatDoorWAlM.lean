/- Maps whose keys are numbers or texts: what is found after an update. -/
import Derived.Test.YtiihkfjbllpiaaaGreatDoorWAlJ
namespace Go.AL
set_option linter.unusedSectionVars false
variable [Mode]
set_option linter.unusedSimpArgs false
set_option linter.unusedVariables false
def KeysK {α : Type} (K : α → V) (rows : List (V × V)) : Prop:=∀ p ∈ rows,(∃ a,p.1 = K a) ∧ p.1.isImm = true ∧ p.2.isImm = true
section
variable {α : Type} {K : α → V} {rows : List (V × V)}
theorem KeysK.nil : KeysK K []:=fun p h=>by cases h
theorem putV_mem {k v : V} : ∀ {rows : List (V × V)} {p : V × V},p ∈ putV k v rows → p = (k,v) ∨ p ∈ rows
  | [],p,h=>by simp only[putV,List.mem_singleton] at h;exact .inl h
  | q :: rows,p,h=>by
    rw[putV] at h
    split at h
    · rcases List.mem_cons.1 h with h | h
      · exact .inl h
      · exact .inr (List.mem_cons_of_mem _ h)
    · rcases List.mem_cons.1 h with h | h
      · exact .inr (by rw[h];exact List.mem_cons_self ..)
      · exact (putV_mem h).imp id (List.mem_cons_of_mem _)
theorem KeysK.put (h : KeysK K rows) {a : α} {v : V} (hk : (K a).isImm = true) (hv : v.isImm = true) : KeysK K (putV (K a) v rows):=fun p hp=>by
  rcases putV_mem hp with rfl | hp
  · exact ⟨⟨a,rfl⟩,hk,hv⟩
  · exact h p hp
end
end Go.AL
