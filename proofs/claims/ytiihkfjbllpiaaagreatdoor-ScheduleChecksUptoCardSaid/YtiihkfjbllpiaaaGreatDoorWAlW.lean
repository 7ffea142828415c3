/- A call that told only what lies below: its end world, and a row of cells that it made, over the store. -/
import Derived.Test.YtiihkfjbllpiaaaGreatDoorWAlM
import Derived.Below
import Derived.Laws.AppendOwn
namespace Go.AL
open Go.RowKit
set_option linter.unusedSectionVars false
variable [Mode] [LooseM]
set_option linter.unusedSimpArgs false
set_option linter.unusedVariables false
section
variable {P : Program} {ρ : Place} {S : Store} {w : World}
theorem ext_below {w' : World} (hb : Below w.heap.size w w') : Ext ρ S w ρ S w':=by
  refine ⟨hb.os,⟨hb.tape,fun e=>absurd e LooseM.no⟩,hb.output,hb.size,fun g hg=>⟨⟨?_,hg.2⟩,hb.block g hg.1⟩,Nat.le_refl _,fun id o o' h h'=>?_⟩
  · have:=hg.1;have:=hb.size;omega
  · rw[h] at h';cases h';exact ⟨Nat.le_refl _,fun _ c hc=>⟨c,hc,Cont.like_refl c,rfl⟩⟩
theorem inv_below {w' : World} (hi : Inv ρ S w) (hw : Below w.heap.size w w') : Inv ρ S w':=by
  have hx:=ext_below (ρ:=ρ) (S:=S) hw
  refine ⟨fun id ver e sz rows hs=>?_,hi.inj,maps_of hi hx (fun id ver rows hs=>⟨hs,rfl⟩) (fun id ver rows g hs hg=>hw.block g (hi.block hs rfl hg)),tab_of hi hx⟩
  obtain ⟨h1,h2⟩:=hi.rows id ver e sz rows hs
  refine ⟨h1,?_⟩
  rcases h2 with h2 | ⟨g,tot,cur,a,b,c,d,f,h⟩
  · exact .inl h2
  · refine .inr ⟨g,tot,cur,a,b,c,?_,f,fun i r hir j v hj=>?_⟩
    · rw[hw.block g (Array.getElem?_eq_some_iff.1 d).1];exact d
    · obtain ⟨u,x,y,z⟩:=h i r hir j v hj
      exact ⟨u,x,y.ext hx,z⟩
def LR (ρ : Place) (S : Store) (w : World) (sz : Nat) (rows : List (List V)) (xs : List Value) : Prop :=
  (∀ (i : Nat) (r : List V),rows[i]? = some r → r.length = sz) ∧ ∀ (i : Nat) (r : List V),rows[i]? = some r → ∀ (j : Nat) (v : V),r[j]? = some v → ∃ u,xs[i * sz + j]? = some u ∧ VR ρ S w false v u ∧ u.oneCell' = true
theorem row_imm (hi : Inv ρ S w) {w' : World} {t : TypeId} {sz n : Nat} {v : Value} {xs : List Value} {rows : List (List V)} (hw : Below w.heap.size w w') (hown : w'.ownsRow w.heap.size t sz v n xs) (hn : rows.length = n) (h0 : 0 < n) (hr : LR ρ S w sz rows xs) (him : ∀ r ∈ rows,V.allImm r = true) (b : Bool) :
    VR ρ S w' b (.sl sz rows) v:=by
  have hx:=ext_below (ρ:=ρ) (S:=S) hw
  obtain ⟨hl,h⟩:=hown
  rcases h with ⟨_,h⟩ | ⟨g,cap,cur,rfl,hb,hg,h1,h2,h3,h4⟩
  · omega
  · have hcell : ∀ (i : Nat) (r : List V),rows[i]? = some r → ∀ (j : Nat) (y : V),r[j]? = some y → ∃ u,cur[i * sz + j]? = some u ∧ VR ρ S w false y u ∧ u.oneCell' = true:=by
      intro i r hir j y hj
      obtain ⟨u,a,b,c⟩:=hr.2 i r hir j y hj
      refine ⟨u,?_,b,c⟩
      rw[← h4,List.getElem?_take] at a
      split at a
      · simpa using a
      · cases a
    refine .sl (fun i j=>(cur[i * sz + j]?).getD Go.undef) ⟨(Array.getElem?_eq_some_iff.1 hg).1,fun id o c g' tot ho hc hr' he=>?_⟩ hn.symm h1 h2 hr.1 (fun i r hir j y hj=>?_) (fun i r hir j y hj=>?_) (fun i r hir j y hj=>?_)
    · have:=hi.block ho hc hr'
      omega
    · obtain ⟨u,a,_⟩:=hcell i r hir j y hj
      rw[a]
      unfold World.cell?
      simp only[hg,Nat.zero_add]
      simpa using a
    · obtain ⟨u,a,b',_⟩:=hcell i r hir j y hj
      rw[a]
      exact (b'.ext hx).toImm (V.allImm_get (him r (List.mem_of_getElem? hir)) j y hj) true
    · obtain ⟨u,a,_,c⟩:=hcell i r hir j y hj
      rw[a]
      exact c
end
end Go.AL
