/- period.Normal, in memory. -/
import Derived.BigRegionIn
import Derived.Stop.RegionWithIn
import Derived.Laws.ResultCell
import Derived.Test.YtiihkfjbllpiaaaGreatDoorWSchV
import Derived.Test.YtiihkfjbllpiaaaGreatDoorWSm1
namespace Go.Proofs.YtiihkfjbllpiaaaGreatDoor
open Go Go.RowKit Go.Shelf
attribute [local go_sem] Oper.semAt_some
set_option linter.unusedVariables false
set_option linter.unusedSectionVars false
variable [Go.AL.Mode] [Go.AL.LooseM]
theorem any_own (Bn k : Nat) (ty : TypeId) (ok : List Int → Array Value → Prop) : OwnFrom k (fun (pre : List Int) W=>∃ cs,ok pre cs ∧ W.heap[Bn]? = some (.cells cs ty (0,0))):=by
  rintro s A B row ⟨cs,hok,h⟩ hg hr
  refine ⟨cs,hok,(hg.block Bn (Array.getElem?_eq_some_iff.1 h).1 fun e=>?_).trans h⟩
  obtain ⟨_,o,ho,hc⟩:=hr Bn e.symm
  rw[h] at ho
  cases ho
  cases hc
def NorJ (n : Nat) (p : Pd) (pre : List Int) (W : World) : Prop :=
  ((∃ cs : Array Value,(∃ a b c : Int,cs = #[.int .i64 a,.int .i64 b,.int .i64 c]) ∧ W.heap[n + 2]? = some (.cells cs 38 (0,0))) ∧
   (∃ cs : Array Value,cs = #[.bool (decide (pre ≠ []))] ∧ W.heap[n + 3]? = some (.cells cs 4 (0,0)))) ∧
  ((∃ cs : Array Value,(cs = #[.int .i64 0,.int .i64 0,.int .i64 0]) ∧ W.heap[n + 1]? = some (.cells cs 38 (0,0))) ∧
   (∃ cs : Array Value,cs = #[.int .i64 p.f,.int .i64 p.t,.int .i64 p.d] ∧ W.heap[n + 4]? = some (.cells cs 38 (0,0))))
theorem norJ_own (n k : Nat) (p : Pd) : OwnFrom k (NorJ n p) :=
  OwnFrom.and (OwnFrom.and (any_own _ _ _ fun _ cs=>∃ a b c : Int,cs = #[.int .i64 a,.int .i64 b,.int .i64 c]) (any_own _ _ _ fun pre cs=>cs = #[.bool (decide (pre ≠ []))]))
    (OwnFrom.and (any_own _ _ _ fun _ cs=>cs = #[.int .i64 0,.int .i64 0,.int .i64 0]) (any_own _ _ _ fun _ cs=>cs = #[.int .i64 p.f,.int .i64 p.t,.int .i64 p.d]))
structure NorH (n : Nat) (p : Pd) (a b c : Int) (s : Bool) (W : World) : Prop where
  e2 : W.heap[n + 2]? = some (.cells #[.int .i64 a,.int .i64 b,.int .i64 c] 38 (0,0))
  e3 : W.heap[n + 3]? = some (.cells #[.bool s] 4 (0,0))
  e1 : W.heap[n + 1]? = some (.cells #[.int .i64 0,.int .i64 0,.int .i64 0] 38 (0,0))
  e4 : W.heap[n + 4]? = some (.cells #[.int .i64 p.f,.int .i64 p.t,.int .i64 p.d] 38 (0,0))
theorem NorH.grown {n : Nat} {p : Pd} {a b c : Int} {s : Bool} {W W' : World} (h : NorH n p a b c s W) (hg : W.grownBy W' none) : NorH n p a b c s W':=by
  have k : ∀ {i : Nat} {o : Go.Obj},W.heap[i]? = some o → W'.heap[i]? = some o:=fun e=>(hg.block _ (Array.getElem?_eq_some_iff.1 e).1 fun e=>by cases e).trans e
  exact ⟨k h.e2,k h.e3,k h.e1,k h.e4⟩
theorem NorH.cells {n : Nat} {p : Pd} {a b c : Int} {s : Bool} {W : World} (h : NorH n p a b c s W) :
    W.cell? ⟨n + 1 + 1 + 1,0,none⟩ = some (.bool s) ∧ W.frozen? ⟨n + 1 + 1 + 1,0,none⟩ = false ∧ W.cell? ⟨n + 1 + 1,0,none⟩ = some (.int .i64 a) ∧ W.cell? ⟨n + 1 + 1,1,none⟩ = some (.int .i64 b) ∧ W.cell? ⟨n + 1 + 1,2,none⟩ = some (.int .i64 c) ∧
    W.frozen? ⟨n + 1 + 1,0,none⟩ = false ∧ W.frozen? ⟨n + 1 + 1,1,none⟩ = false ∧ W.frozen? ⟨n + 1 + 1,2,none⟩ = false ∧ W.cell? ⟨n + 1,0,none⟩ = some (.int .i64 0) ∧ W.cell? ⟨n + 1,1,none⟩ = some (.int .i64 0) ∧ W.cell? ⟨n + 1,2,none⟩ = some (.int .i64 0) ∧
    W.frozen? ⟨n + 1,0,none⟩ = false ∧ W.frozen? ⟨n + 1,1,none⟩ = false ∧ W.frozen? ⟨n + 1,2,none⟩ = false:=by
  unfold World.cell? World.frozen?
  simp [h.e1,h.e2,h.e3]
theorem NorH.set3 {n : Nat} {p : Pd} {a b c : Int} {s : Bool} {W : World} (h : NorH n p a b c s W) (s' : Bool) : NorH n p a b c s' (W.setCell ⟨n + 1 + 1 + 1,0,none⟩ (.bool s')):=by
  refine ⟨?_,?_,?_,?_⟩
  · rw[Below.heap_setCell _ _ _ _ (by simp)];exact h.e2
  · show (W.heap.modify (n + 3) _)[n + 3]? = _
    rw[Array.getElem?_modify,if_pos rfl,h.e3]
    rfl
  · rw[Below.heap_setCell _ _ _ _ (by simp)];exact h.e1
  · rw[Below.heap_setCell _ _ _ _ (by simp)];exact h.e4
theorem NorH.set20 {n : Nat} {p : Pd} {a b c : Int} {s : Bool} {W : World} (h : NorH n p a b c s W) (x : Int) : NorH n p x b c s (W.setCell ⟨n + 1 + 1,0,none⟩ (.int .i64 x)):=by
  refine ⟨?_,?_,?_,?_⟩
  · show (W.heap.modify (n + 2) _)[n + 2]? = _
    rw[Array.getElem?_modify,if_pos rfl,h.e2]
    rfl
  · rw[Below.heap_setCell _ _ _ _ (by simp)];exact h.e3
  · rw[Below.heap_setCell _ _ _ _ (by simp)];exact h.e1
  · rw[Below.heap_setCell _ _ _ _ (by simp)];exact h.e4
theorem NorH.set21 {n : Nat} {p : Pd} {a b c : Int} {s : Bool} {W : World} (h : NorH n p a b c s W) (x : Int) : NorH n p a x c s (W.setCell ⟨n + 1 + 1,1,none⟩ (.int .i64 x)):=by
  refine ⟨?_,?_,?_,?_⟩
  · show (W.heap.modify (n + 2) _)[n + 2]? = _
    rw[Array.getElem?_modify,if_pos rfl,h.e2]
    rfl
  · rw[Below.heap_setCell _ _ _ _ (by simp)];exact h.e3
  · rw[Below.heap_setCell _ _ _ _ (by simp)];exact h.e1
  · rw[Below.heap_setCell _ _ _ _ (by simp)];exact h.e4
theorem NorH.set22 {n : Nat} {p : Pd} {a b c : Int} {s : Bool} {W : World} (h : NorH n p a b c s W) (x : Int) : NorH n p a b x s (W.setCell ⟨n + 1 + 1,2,none⟩ (.int .i64 x)):=by
  refine ⟨?_,?_,?_,?_⟩
  · show (W.heap.modify (n + 2) _)[n + 2]? = _
    rw[Array.getElem?_modify,if_pos rfl,h.e2]
    rfl
  · rw[Below.heap_setCell _ _ _ _ (by simp)];exact h.e3
  · rw[Below.heap_setCell _ _ _ _ (by simp)];exact h.e1
  · rw[Below.heap_setCell _ _ _ _ (by simp)];exact h.e4
theorem nor_fin {n B : Nat} {p : Pd} {a b c : Int} {w W V w1 : World} {pre : List Int} {x : Int} (hK : KeepsOthers W V) (hBV : Below n W V) (hB : Below n w W) (e4 : W.heap[n + 4]? = some (.cells #[.int .i64 p.f,.int .i64 p.t,.int .i64 p.d] 38 (0,0)))
    (hn : n ≤ V.heap.size) (hg : (World.drew V).grownBy w1 none) (hh : NorH n p a b c true w1) (y : Int) :
    KeepsFrom B W (w1.setCell ⟨n + 1 + 1,2,none⟩ (.int .i64 y)) ∧ KpD n (n + 4) W (w1.setCell ⟨n + 1 + 1,2,none⟩ (.int .i64 y)) ∧ NorJ n p (pre ++ [x]) (w1.setCell ⟨n + 1 + 1,2,none⟩ (.int .i64 y)) ∧ Below n w (w1.setCell ⟨n + 1 + 1,2,none⟩ (.int .i64 y)):=by
  have hH:=hh.set22 y
  have hb1 : Below n V w1:=(Below.refl n V).drew.trans (grown_below hg hn)
  have hb2 : Below n W (w1.setCell ⟨n + 1 + 1,2,none⟩ (.int .i64 y)):=(hBV.trans hb1).setCell (by simp only;omega) _
  refine ⟨((((hK.trans (KeepsOthers.drew V)).trans (KeepsOthers.of_grownBy hg (fun j o e=>by cases e))).trans (KeepsOthers.setCell _ _ _))).from B,⟨hb2,hH.e4.trans e4.symm⟩,⟨⟨⟨_,⟨_,_,_,rfl⟩,hH.e2⟩,⟨_,by simp,hH.e3⟩⟩,⟨_,rfl,hH.e1⟩,⟨_,rfl,hH.e4⟩⟩,hB.trans hb2⟩
theorem set_cells {W : World} {k : Nat} {cs : Array Value} {ty : TypeId} {fr : Nat × Nat} (h : W.heap[k]? = some (.cells cs ty fr)) (o : Nat) (v : Value) : (W.setCell ⟨k,o,none⟩ v).heap[k]? = some (.cells (cs.setIfInBounds o v) ty fr):=by
  show (W.heap.modify k _)[k]? = _
  rw[Array.getElem?_modify,if_pos rfl,h]
  rfl
theorem nor_done {n D : Nat} {p : Pd} {a b c : Int} {s : Bool} {w W : World} (h : NorH n p a b c s W) (hB : Below n w W) (hD : n + 5 ≤ D) (hK : W.heap[D]? = some (.deferred (some []))) :
    (((W.setCell ⟨n + 1,0,none⟩ (.int .i64 a)).setCell ⟨n + 1,1,none⟩ (.int .i64 b)).setCell ⟨n + 1,2,none⟩ (.int .i64 c)).drew.heap[D]? = some (.deferred (some [])) ∧
    ((((W.setCell ⟨n + 1,0,none⟩ (.int .i64 a)).setCell ⟨n + 1,1,none⟩ (.int .i64 b)).setCell ⟨n + 1,2,none⟩ (.int .i64 c)).drew.putObj D (.deferred none)).heap[n + 1]? = some (.cells #[.int .i64 a,.int .i64 b,.int .i64 c] 38 (0,0)) ∧
    Below n w ((((W.setCell ⟨n + 1,0,none⟩ (.int .i64 a)).setCell ⟨n + 1,1,none⟩ (.int .i64 b)).setCell ⟨n + 1,2,none⟩ (.int .i64 c)).drew.putObj D (.deferred none)):=by
  have hk : (((W.setCell ⟨n + 1,0,none⟩ (.int .i64 a)).setCell ⟨n + 1,1,none⟩ (.int .i64 b)).setCell ⟨n + 1,2,none⟩ (.int .i64 c)).drew.heap[D]? = some (.deferred (some [])):=by
    show (((W.setCell ⟨n + 1,0,none⟩ (.int .i64 a)).setCell ⟨n + 1,1,none⟩ (.int .i64 b)).setCell ⟨n + 1,2,none⟩ (.int .i64 c)).heap[D]? = _
    rw[Below.heap_setCell _ _ _ _ (by simp only;omega),Below.heap_setCell _ _ _ _ (by simp only;omega),Below.heap_setCell _ _ _ _ (by simp only;omega)]
    exact hK
  refine ⟨hk,?_,?_⟩
  · rw[World.putObj_heap_other (by omega)]
    exact set_cells (set_cells (set_cells h.e1 0 (.int .i64 a)) 1 (.int .i64 b)) 2 (.int .i64 c)
  · have h3:=(((hB.setCell (p:=⟨n + 1,0,none⟩) (by simp only;omega) (.int .i64 a)).setCell (p:=⟨n + 1,1,none⟩) (by simp only;omega) (.int .i64 b)).setCell (p:=⟨n + 1,2,none⟩) (by simp only;omega) (.int .i64 c)).drew
    exact h3.trans ⟨rfl,rfl,rfl,by simp [World.putObj],fun i hi=>World.putObj_heap_other (by omega)⟩
set_option maxRecDepth 100000 in
set_option maxHeartbeats 2000000 in
theorem normal_in (F : Fence) (L : Leaves F) (n : Nat) (hn : 3 ≤ n) (p : Pd) (w : World) (ht : AL.TabOk AL.noPlace [] w) :
    CallsIn F n Tryz.prog 140 #[.agg #[.int .i64 p.f,.int .i64 p.t,.int .i64 p.d]] w fun e W'=>(∃ a b c : Int,e = .returned (.tuple #[.agg #[.int .i64 a,.int .i64 b,.int .i64 c],.bool (decide (daysF p ≠ []))])) ∧ Below w.heap.size w W':=by
  have hro:=L.r
  have h137:=L.f4
  have h147:=L.f7
  have h1 : 1 ≤ n:=by omega
  have h3 : 1 ≤ n - 1 - 1:=by omega
  refine callsIn_of_wp_marks Tryz.func140 rfl L.f6 ?_ hro
  simp only[Tryz.ntmps140,List.size_toArray,List.length_cons,List.length_nil,Nat.reduceAdd,Nat.reduceSub,Array.replicate_succ,Array.replicate_zero,List.push_toArray,List.append_toArray,List.nil_append,List.cons_append]
  gi_wp2_with (gi_at_call 137;refine (each_in F L (n - 1) p _).mono ?_;rintro e w' ⟨rfl,rfl⟩)
  obtain ⟨W4,hW4⟩ : ∃ W4 : World,W4 = ((((w.alloc (.cells #[.int .i64 p.f,.int .i64 p.t,.int .i64 p.d] 38)).alloc (.cells #[.int .i64 0,.int .i64 0,.int .i64 0] 38)).alloc (.cells #[.int .i64 0,.int .i64 0,.int .i64 0] 38)).alloc (.cells #[.bool false] 4)).alloc (.cells #[.int .i64 p.f,.int .i64 p.t,.int .i64 p.d] 38):=⟨_,rfl⟩
  rw[← hW4]
  have hsz : W4.heap.size = w.heap.size + 5:=by rw[hW4];simp
  have hB0 : Below w.heap.size w W4:=by
    rw[hW4]
    exact (((((Below.refl _ w).alloc (Nat.le_refl _) _).alloc (by simp) _).alloc (by simp;omega) _).alloc (by simp;omega) _).alloc (by simp;omega) _
  have hJ0 : NorJ w.heap.size p [] W4:=by
    have g4:=World.alloc_heap_new ((((w.alloc (.cells #[.int .i64 p.f,.int .i64 p.t,.int .i64 p.d] 38)).alloc (.cells #[.int .i64 0,.int .i64 0,.int .i64 0] 38)).alloc (.cells #[.int .i64 0,.int .i64 0,.int .i64 0] 38)).alloc (.cells #[.bool false] 4)) (.cells #[.int .i64 p.f,.int .i64 p.t,.int .i64 p.d] 38)
    have g3:=World.alloc_heap_new (((w.alloc (.cells #[.int .i64 p.f,.int .i64 p.t,.int .i64 p.d] 38)).alloc (.cells #[.int .i64 0,.int .i64 0,.int .i64 0] 38)).alloc (.cells #[.int .i64 0,.int .i64 0,.int .i64 0] 38)) (.cells #[.bool false] 4)
    have g2:=World.alloc_heap_new ((w.alloc (.cells #[.int .i64 p.f,.int .i64 p.t,.int .i64 p.d] 38)).alloc (.cells #[.int .i64 0,.int .i64 0,.int .i64 0] 38)) (.cells #[.int .i64 0,.int .i64 0,.int .i64 0] 38)
    have g1:=World.alloc_heap_new (w.alloc (.cells #[.int .i64 p.f,.int .i64 p.t,.int .i64 p.d] 38)) (.cells #[.int .i64 0,.int .i64 0,.int .i64 0] 38)
    simp only[World.size_alloc] at g1 g2 g3 g4
    refine ⟨⟨⟨_,⟨0,0,0,rfl⟩,?_⟩,⟨_,rfl,?_⟩⟩,⟨_,rfl,?_⟩,⟨_,rfl,?_⟩⟩
    · rw[hW4,Below.heap_alloc _ _ _ (by simp),Below.heap_alloc _ _ _ (by simp)]
      exact g2
    · rw[hW4,Below.heap_alloc _ _ _ (by simp)]
      exact g3
    · rw[hW4,Below.heap_alloc _ _ _ (by simp),Below.heap_alloc _ _ _ (by simp),Below.heap_alloc _ _ _ (by simp)]
      exact g1
    · rw[hW4]
      exact g4
  obtain ⟨c4,hc4,bN⟩:=hJ0.2.2
  subst hc4
  refine wpIn_rangeFunc_ownG hro h1 (gf:=167) (lb:=#[.pointer (some ⟨w.heap.size + 1 + 1 + 1 + 1,0,none⟩)]) (by simp [Act.eval]) L.f3 (enters_of Tryz.func167 (by kernel_rfl) rfl)
    (each_stops F L (n - 1) (by omega) (w.heap.size + 4) w.heap.size p _ (by omega) (tab_keep ht (tab_lt ht) hB0) (tab_lt ht) bN) KpD.trans (fun W l o o' hl hb k1 k2=>⟨belowK_b (w:=w) (Nat.le_refl _) W l o o' (by omega) hb k1 k2,World.putObj_heap_other (by omega)⟩) (Below.refl _ _) (fun _=>rfl)
    (fun pre W=>NorJ w.heap.size p pre W ∧ Below w.heap.size w W)
    (fun _ _ _=>False)
    (OwnFrom.and (norJ_own _ _ p) (ownFrom_below (Nat.le_refl _) (by omega)))
    (fun _ _ _ _ _ hs _ _=>hs)
    ⟨hJ0,hB0⟩
    (fun x=>{ tmps:=#[.agg #[.int .i64 p.f,.int .i64 p.t,.int .i64 p.d],.pointer (some ⟨w.heap.size,0,none⟩),.pointer (some ⟨w.heap.size + 1,0,none⟩),.bool false,.pointer (some ⟨w.heap.size + 1 + 1,0,none⟩),.pointer (some ⟨w.heap.size + 1 + 1 + 1,0,none⟩),.int .i64 x,.agg #[.int .i64 p.f,.int .i64 p.t,.int .i64 p.d],.func (.func 167) #[] #[.pointer (some ⟨w.heap.size + 1 + 1 + 1 + 1,0,none⟩)],.int .i64 x,undef,undef,undef,undef,undef,undef,undef,undef,undef,undef,undef,undef,undef,undef,undef],defers:=[] }) ?assign ?body ?done ?stop
  case assign =>
    intro l x W K hK
    gi_wp2
    exact hK
  case body =>
    rintro l pre x W ⟨⟨⟨⟨c2,⟨a,b,c,rfl⟩,e2⟩,⟨c3,rfl,e3⟩⟩,⟨c1,rfl,e1⟩,⟨c4,rfl,e4⟩⟩,hB⟩ hlt
    have hW : NorH w.heap.size p a b c (decide (pre ≠ [])) W:=⟨e2,e3,e1,e4⟩
    obtain ⟨ce3,fz3,ce20,ce21,ce22,fz20,fz21,fz22,_⟩:=hW.cells
    gi_wp2
    · have hV:=((hW.set20 x).set3 true).set21 x
      have hBV:=((hB.setCell (p:=⟨w.heap.size + 1 + 1,0,none⟩) (by simp only;omega) (.int .i64 x)).setCell (p:=⟨w.heap.size + 1 + 1 + 1,0,none⟩) (by simp only;omega) (.bool true)).setCell (p:=⟨w.heap.size + 1 + 1,1,none⟩) (by simp only;omega) (.int .i64 x)
      obtain ⟨V,hVe⟩ : ∃ V : World,V = ((W.setCell ⟨w.heap.size + 1 + 1,0,none⟩ (.int .i64 x)).setCell ⟨w.heap.size + 1 + 1 + 1,0,none⟩ (.bool true)).setCell ⟨w.heap.size + 1 + 1,1,none⟩ (.int .i64 x):=⟨_,rfl⟩
      rw[← hVe] at hV hBV ⊢
      have hKV : KeepsOthers W V:=by rw[hVe];exact ((KeepsOthers.setCell W _ _).trans (KeepsOthers.setCell _ _ _)).trans (KeepsOthers.setCell _ _ _)
      have hBWV : Below w.heap.size W V:=by rw[hVe];exact (((Below.refl _ W).setCell (by simp only;omega) _).setCell (by simp only;omega) _).setCell (by simp only;omega) _
      clear hVe hW ce3 fz3 ce20 ce21 ce22 fz20 fz21 fz22
      have hT : AL.TabOk AL.noPlace [] V:=tab_keep ht (tab_lt ht) hBV
      obtain ⟨ve3,vz3,v20,v21,v22,z20,z21,z22,_⟩:=hV.cells
      have hTd : AL.TabOk AL.noPlace [] (World.drew V):=hT
      have hwd : ∀ k,CallsIn (F.inRound l) k Tryz.prog 147 #[.int .i64 x] (World.drew V) fun e W'=>e = .returned (.int .i64 (wday x : Nat)) ∧ (World.drew V).grownBy W' none:=fun k=>CallsIn.inRound l (L.wd x k (World.drew V) hTd)
      have hcell : ∀ w1 : World,(World.drew V).grownBy w1 none → NorH w.heap.size p x x c true w1:=fun w1 hg=>NorH.grown (⟨hV.e2,hV.e3,hV.e1,hV.e4⟩ : NorH w.heap.size p x x c true (World.drew V)) hg
      gi_region_with (gi_at_call 147;refine (hwd _).mono ?_;rintro e w1 ⟨rfl,hg1⟩;obtain ⟨xe3,xz3,x20,x21,x22,y20,y21,y22,xr⟩:=(hcell w1 hg1).cells)
      all_goals exact nor_fin hKV hBWV hB e4 (by have:=hBV.size;omega) hg1 (hcell w1 hg1) _
    · have hV:=(hW.set3 true).set21 x
      have hBV:=(hB.setCell (p:=⟨w.heap.size + 1 + 1 + 1,0,none⟩) (by simp only;omega) (.bool true)).setCell (p:=⟨w.heap.size + 1 + 1,1,none⟩) (by simp only;omega) (.int .i64 x)
      obtain ⟨V,hVe⟩ : ∃ V : World,V = (W.setCell ⟨w.heap.size + 1 + 1 + 1,0,none⟩ (.bool true)).setCell ⟨w.heap.size + 1 + 1,1,none⟩ (.int .i64 x):=⟨_,rfl⟩
      rw[← hVe] at hV hBV ⊢
      have hKV : KeepsOthers W V:=by rw[hVe];exact (KeepsOthers.setCell W _ _).trans (KeepsOthers.setCell _ _ _)
      have hBWV : Below w.heap.size W V:=by rw[hVe];exact ((Below.refl _ W).setCell (by simp only;omega) _).setCell (by simp only;omega) _
      clear hVe hW ce3 fz3 ce20 ce21 ce22 fz20 fz21 fz22
      have hT : AL.TabOk AL.noPlace [] V:=tab_keep ht (tab_lt ht) hBV
      obtain ⟨ve3,vz3,v20,v21,v22,z20,z21,z22,_⟩:=hV.cells
      have hTd : AL.TabOk AL.noPlace [] (World.drew V):=hT
      have hwd : ∀ k,CallsIn (F.inRound l) k Tryz.prog 147 #[.int .i64 x] (World.drew V) fun e W'=>e = .returned (.int .i64 (wday x : Nat)) ∧ (World.drew V).grownBy W' none:=fun k=>CallsIn.inRound l (L.wd x k (World.drew V) hTd)
      have hcell : ∀ w1 : World,(World.drew V).grownBy w1 none → NorH w.heap.size p a x c true w1:=fun w1 hg=>NorH.grown (⟨hV.e2,hV.e3,hV.e1,hV.e4⟩ : NorH w.heap.size p a x c true (World.drew V)) hg
      gi_region_with (gi_at_call 147;refine (hwd _).mono ?_;rintro e w1 ⟨rfl,hg1⟩;obtain ⟨xe3,xz3,x20,x21,x22,y20,y21,y22,xr⟩:=(hcell w1 hg1).cells)
      all_goals exact nor_fin hKV hBWV hB e4 (by have:=hBV.size;omega) hg1 (hcell w1 hg1) _
  case done =>
    rintro D ys W hD rfl ⟨⟨⟨⟨c2,⟨a,b,c,rfl⟩,e2⟩,⟨c3,rfl,e3⟩⟩,⟨c1,rfl,e1⟩,⟨c4,rfl,e4⟩⟩,hB⟩ hK
    have hW : NorH w.heap.size p a b c (decide (daysF p ≠ [])) W:=⟨e2,e3,e1,e4⟩
    obtain ⟨ce3,fz3,ce20,ce21,ce22,fz20,fz21,fz22,ce10,ce11,ce12,fz10,fz11,fz12⟩:=hW.cells
    gi_wp2
    gi_region
    all_goals gi_wp2
    all_goals
      obtain ⟨q1,q2,q3⟩:=nor_done hW hB (D:=D) (by omega) hK
      refine ⟨by simp,.inl ⟨_,_,rfl,run_takeDeferred q1,?_⟩⟩
      refine ⟨.tuple #[.agg #[.int .i64 a,.int .i64 b,.int .i64 c],.bool (decide (daysF p ≠ []))],?_,⟨a,b,c,rfl⟩,q3⟩
      generalize (World.putObj _ D (Go.Obj.deferred none)) = Z at q2 q3 ⊢
      have z0 : Z.cell? ⟨w.heap.size + 1,0,none⟩ = some (.int .i64 a):=by unfold World.cell?;simp [q2]
      have z1 : Z.cell? ⟨w.heap.size + 1,1,none⟩ = some (.int .i64 b):=by unfold World.cell?;simp [q2]
      have z2 : Z.cell? ⟨w.heap.size + 1,2,none⟩ = some (.int .i64 c):=by unfold World.cell?;simp [q2]
      rw[results_cell_tmp rfl]
      go_simp
  case stop =>
    rintro D c pre W _ _ h _
    exact h.elim
end Go.Proofs.YtiihkfjbllpiaaaGreatDoor
/- Schedule: periods that meet. -/
namespace Go.Proofs.YtiihkfjbllpiaaaGreatDoor
open Go Go.AL
set_option linter.unusedSectionVars false
variable [Go.AL.Mode] [Go.AL.LooseM]
set_option linter.unusedSimpArgs false
set_option linter.unusedVariables false
theorem normal_A (p : Pd) (S : Store) : CallA Tryz.prog 140 [.agg (pdR p)] S fun r S'=>∃ a b c : Int,r = .tup [.agg [.int .i64 a,.int .i64 b,.int .i64 c],.bool (decide (daysF p ≠ []))] ∧ S' = S:=by
  refine ⟨⟨Tryz.f140,Tryz.func140,by kernel_rfl,by kernel_rfl⟩,fun ρ w us hi hvs=>?_⟩
  rw[one_inv hvs]
  refine (callsIn_wide.1 (normal_in Fence.wide leaves 3 (Nat.le_refl _) p w (tab_none hi.tab))).mono ?_
  rintro en w' ⟨⟨a,b,c,rfl⟩,hB⟩
  refine ⟨ρ,S,_,_,rfl,?_,inv_below hi hB,ext_below hB,a,b,c,rfl,rfl⟩
  refine VR.tup' rfl fun j v hj=>?_
  match j,hj with
  | 0,hj =>
    cases hj
    refine ⟨_,rfl,VR.agg' rfl fun i x hx=>?_⟩
    match i,hx with
    | 0,hx=>cases hx;exact ⟨_,rfl,.int⟩
    | 1,hx=>cases hx;exact ⟨_,rfl,.int⟩
    | 2,hx=>cases hx;exact ⟨_,rfl,.int⟩
  | 1,hj =>
    cases hj
    exact ⟨_,rfl,.bool⟩
theorem and_small {a b : Nat} (ha : a ≤ 127) (hb : b ≤ 127) : IntKind.i64.wrap ((BitVec.ofInt IntKind.i64.bits (a : Int) &&& BitVec.ofInt IntKind.i64.bits (b : Int)).toNat : Nat) = ((a &&& b : Nat) : Int):=by
  have h1 : (BitVec.ofInt IntKind.i64.bits (a : Int) &&& BitVec.ofInt IntKind.i64.bits (b : Int)).toNat = a &&& b:=by
    rw[BitVec.ofInt_natCast,BitVec.ofInt_natCast,BitVec.toNat_and,BitVec.toNat_ofNat,BitVec.toNat_ofNat,Nat.mod_eq_of_lt (by show a < 2 ^ 64;omega),Nat.mod_eq_of_lt (by show b < 2 ^ 64;omega)]
  have h2 : a &&& b ≤ a:=Nat.and_le_left
  rw[h1]
  simp (disch:=omega) only[wrap_i64]
theorem onF_bit (m : Nat) (d : Int) : onF (m : Int) d = m.testBit (wday d):=by
  unfold onF
  rw[Nat.testBit_eq_decide_div_mod_eq,Bool.eq_iff_iff,decide_eq_true_eq,decide_eq_true_eq]
  norm_cast
theorem days_some (p : Pd) : daysF p ≠ [] ↔ ∃ d,hasF p d = true :=
  ⟨fun h=>let ⟨d,hd⟩:=List.exists_mem_of_ne_nil _ h;⟨d,days_has hd⟩,fun ⟨d,hd⟩=>List.ne_nil_of_mem (has_days hd)⟩
theorem hasF_iff (p : Pd) (d : Int) : hasF p d = true ↔ (pdF p = 0 ∧ p.f ≤ d ∧ d ≤ p.t) ∧ onF p.d d = true:=by
  unfold hasF
  rw[Bool.and_eq_true,decide_eq_true_eq]
theorem meet_days {a b : Pd} (ha : pdF a = 0) (hb : pdF b = 0) {x y : Nat} (hx : a.d = x) (hy : b.d = y) : decide (daysF ⟨max a.f b.f,min a.t b.t,((x &&& y : Nat) : Int)⟩ ≠ []) = meetF a b:=by
  obtain ⟨a1,a2,a3,a4,a5,a6⟩:=pd_ok ha
  obtain ⟨b1,b2,b3,b4,b5,b6⟩:=pd_ok hb
  rw[Bool.eq_iff_iff,decide_eq_true_eq,days_some]
  unfold meetF
  rw[List.any_eq_true]
  constructor
  · rintro ⟨d,hd⟩
    obtain ⟨⟨h1,h2,h3⟩,h4⟩:=(hasF_iff _ d).1 hd
    simp only at h2 h3 h4
    rw[onF_bit,Nat.testBit_and,Bool.and_eq_true] at h4
    exact ⟨d,has_days ((hasF_iff _ d).2 ⟨⟨ha,by omega,by omega⟩,by rw[hx,onF_bit];exact h4.1⟩),(hasF_iff _ d).2 ⟨⟨hb,by omega,by omega⟩,by rw[hy,onF_bit];exact h4.2⟩⟩
  · rintro ⟨d,hd,hd2⟩
    obtain ⟨⟨_,g2,g3⟩,g4⟩:=(hasF_iff _ d).1 (days_has hd)
    obtain ⟨⟨_,k2,k3⟩,k4⟩:=(hasF_iff _ d).1 hd2
    rw[hx,onF_bit] at g4
    rw[hy,onF_bit] at k4
    have hbit : (x &&& y).testBit (wday d) = true:=by rw[Nat.testBit_and,g4,k4];rfl
    have hle : x &&& y ≤ x:=Nat.and_le_left
    have hpos : x &&& y ≠ 0:=fun h=>by rw[h,Nat.zero_testBit] at hbit;cases hbit
    refine ⟨d,(hasF_iff _ d).2 ⟨⟨?_,by simp only;omega,by simp only;omega⟩,by simp only;rw[onF_bit];exact hbit⟩⟩
    unfold pdF
    simp only
    rw[if_neg (by omega),if_neg (by omega),if_neg (by omega)]
theorem within_A (a : Pd) (f t : Int) (x y : Nat) (hx : a.d = x) (hx1 : x ≤ 127) (hy1 : y ≤ 127) (S : Store) : CallA Tryz.prog 94 [.agg (pdR a),.int .i64 f,.int .i64 t,.int .i64 (y : Nat)] S fun r S'=>∃ u v w : Int,r = .tup [.agg [.int .i64 u,.int .i64 v,.int .i64 w],.bool (decide (daysF ⟨max a.f f,min a.t t,((x &&& y : Nat) : Int)⟩ ≠ []))] ∧ S' = S:=by
  refine CallA.withNeat Tryz.func94 c594 fun hn=>?_
  refine CallA.fin Tryz.func94 c594 (Nat.le_of_ble_eq_true rfl) fun σ hσ=>?_
  have hnm:=fun S=>normal_A ⟨max a.f f,min a.t t,((x &&& y : Nat) : Int)⟩ S
  simp only[pdR] at hnm
  have hxy:=and_small hx1 hy1
  simp (disch:=first|omega|(simp only[lenT];omega)) only[a594,pdR,hx,hxy,evSt,↓eA,eB,evU,seval]
  refine (hnm _).mono ?_
  rintro _ S2 ⟨u,v,w,rfl,hS2⟩
  rw[hS2]
  simp (disch:=first|omega|(simp only[lenT];omega)) only[evSt,↓eA,eB,evU,seval]
  exact ⟨_,S,hn.fgt _,.imm rfl,Nat.le_refl _,u,v,w,rfl,rfl⟩
theorem meet_A (a b : Pd) (S : Store) : CallA Tryz.prog 49 [.agg (pdR a),.agg (pdR b)] S fun r S'=>∃ u v w : Int,r = .tup [.agg [.int .i64 u,.int .i64 v,.int .i64 w],.bool (meetF a b)] ∧ S' = S:=by
  refine CallA.withNeat Tryz.func49 c549 fun hn=>?_
  refine CallA.fin Tryz.func49 c549 (Nat.le_of_ble_eq_true rfl) fun σ hσ=>?_
  have hca:=fun S=>check_A a S
  have hcb:=fun S=>check_A b S
  simp only[pdR] at hca hcb
  simp (disch:=first|omega|(simp only[lenT];omega)) only[a549,pdR,evSt,↓eA,eB,evU,seval]
  refine (hca _).then ?_
  by_cases h1 : pdF a = 0
  case neg =>
    have hm : meetF a b = false:=by unfold meetF daysF;rw[if_neg h1];rfl
    simp (disch:=first|omega|(simp only[lenT];omega)) only[dF h1,hm,evSt,↓eA,eB,evU,seval]
    exact ⟨_,S,hn.fgt _,.imm rfl,Nat.le_refl _,0,0,0,rfl,rfl⟩
  simp (disch:=first|omega|(simp only[lenT];omega)) only[dT h1,evSt,↓eA,eB,evU,seval]
  refine (hcb _).then ?_
  by_cases h2 : pdF b = 0
  case neg =>
    have hm : meetF a b = false:=by unfold meetF;rw[List.any_eq_false];intro d _ h;exact h2 ((hasF_iff b d).1 h).1.1
    simp (disch:=first|omega|(simp only[lenT];omega)) only[dF h2,hm,evSt,↓eA,eB,evU,seval]
    exact ⟨_,S,hn.fgt _,.imm rfl,Nat.le_refl _,0,0,0,rfl,rfl⟩
  obtain ⟨a1,a2,a3,a4,a5,a6⟩:=pd_ok h1
  obtain ⟨b1,b2,b3,b4,b5,b6⟩:=pd_ok h2
  obtain ⟨x,hx⟩:=Int.eq_ofNat_of_zero_le (show 0 ≤ a.d by omega)
  obtain ⟨y,hy⟩:=Int.eq_ofNat_of_zero_le (show 0 ≤ b.d by omega)
  have hw:=fun S=>within_A a b.f b.t x y hx (by omega) (by omega) S
  rw[meet_days h1 h2 hx hy] at hw
  simp only[pdR] at hw
  simp (disch:=first|omega|(simp only[lenT];omega)) only[dT h2,hy,evSt,↓eA,eB,evU,seval]
  refine (hw _).mono ?_
  rintro _ S2 ⟨u,v,w,rfl,hS2⟩
  rw[hS2]
  simp (disch:=first|omega|(simp only[lenT];omega)) only[evSt,↓eA,eB,evU,seval]
  exact ⟨_,S,hn.fgt _,.imm rfl,Nat.le_refl _,u,v,w,rfl,rfl⟩
end Go.Proofs.YtiihkfjbllpiaaaGreatDoor
