/- period.each$1 and period.Days, in memory. -/
import Derived.RangeFuncBox
import Derived.RangeFuncNested
import Derived.RangeFuncLeaves
import Derived.Shelf.Abstract
import Derived.WalkKit
import Derived.OwnWalkIn
import Derived.TacticsInMore
import Derived.LoopNIn
import Derived.LoopIn
import Derived.Maps.AppendAt
import Derived.Test.YtiihkfjbllpiaaaGreatDoorWSch3
namespace Go.Proofs.YtiihkfjbllpiaaaGreatDoor
open Go Go.RowKit Go.Shelf
attribute [local go_sem] Oper.semAt_some
set_option linter.unusedVariables false
set_option linter.unusedSectionVars false
variable [Go.AL.Mode] [Go.AL.LooseM]
structure Leaves (F : Fence) : Prop where
  r : F.round = none
  f1 : F.fn 76
  f2 : F.fn 107
  f3 : F.fn 167
  f4 : F.fn 137
  f5 : F.fn 91
  f6 : F.fn 140
  f7 : F.fn 147
  chk : ∀ (p : Pd) (k : Nat) (W : World),AL.TabOk AL.noPlace [] W → CallsIn F k Tryz.prog 76 #[.agg #[.int .i64 p.f,.int .i64 p.t,.int .i64 p.d]] W fun e W'=>e = .returned (.int .i64 (pdF p)) ∧ W.grownBy W' none
  on : ∀ (d day : Int) (h0 : 1 ≤ d) (h1 : d ≤ 127) (k : Nat) (W : World),AL.TabOk AL.noPlace [] W → CallsIn F k Tryz.prog 107 #[.int .i64 d,.int .i64 day] W fun e W'=>e = .returned (.bool (onF d day)) ∧ W.grownBy W' none
  wd : ∀ (day : Int) (k : Nat) (W : World),AL.TabOk AL.noPlace [] W → CallsIn F k Tryz.prog 147 #[.int .i64 day] W fun e W'=>e = .returned (.int .i64 (wday day : Nat)) ∧ W.grownBy W' none
theorem leaves : Leaves Fence.wide:=⟨rfl,trivial,trivial,trivial,trivial,trivial,trivial,trivial,check_in,on_in,weekday_in⟩
theorem grown_below {n₀ : Nat} {W W' : World} (h : W.grownBy W' none) (hn : n₀ ≤ W.heap.size) : Below n₀ W W':=⟨h.os,h.tape,h.output,h.size,fun k hk=>h.block k (by omega) (fun e=>by cases e)⟩
def KpD (n₀ Bn : Nat) (A B : World) : Prop:=Below n₀ A B ∧ B.heap[Bn]? = A.heap[Bn]?
theorem KpD.trans {n₀ Bn : Nat} {A B C : World} (h : KpD n₀ Bn A B) (k : KpD n₀ Bn B C) : KpD n₀ Bn A C:=⟨h.1.trans k.1,k.2.trans h.2⟩
theorem KpD.refl {n₀ Bn : Nat} {A : World} : KpD n₀ Bn A A:=⟨Below.refl _ _,rfl⟩
theorem grown_kp {n₀ Bn : Nat} {W W' : World} (h : W.grownBy W' none) (hn : n₀ ≤ W.heap.size) (hb : Bn < W.heap.size) : KpD n₀ Bn W W':=⟨grown_below h hn,h.block Bn hb (fun e=>by cases e)⟩
def leftD (p : Pd) : Value → Nat
  | .int _ d=>(p.t + 1 - d).toNat
  | _=>0
set_option maxRecDepth 100000 in
set_option maxHeartbeats 1000000 in
theorem each1_in (F : Fence) (L : Leaves F) (n : Nat) (hn : 1 ≤ n) (l Bn n₀ : Nat) (p : Pd) (J Jx : List Int → World → Prop)
    (hY : ∀ pre x W,J pre W → pre.length < (daysF p).length → YieldAt F (n - 1) Tryz.prog l #[.int .i64 x] W fun e W' =>
      (e = .returned (.bool true) ∧ J (pre ++ [x]) W' ∧ KpD n₀ Bn W W') ∨ (e = .returned (.bool false) ∧ Jx (pre ++ [x]) W'))
    (W : World) (hJ : AbidesFrom W.heap.size J) (hn0 : n₀ ≤ W.heap.size) (ht : AL.TabOk AL.noPlace [] W) (htn : ∀ q ∈ AL.tabs,q.1 < n₀)
    (hb : W.heap[Bn]? = some (.cells #[.int .i64 p.f,.int .i64 p.t,.int .i64 p.d] 38 (0,0))) (h0 : J [] W) :
    CallsIn F n Tryz.prog 167 #[.func (.yield l) #[] #[],.pointer (some ⟨Bn,0,none⟩)] W fun e W'=>(∃ v,e = .returned v) ∧
      ((∃ ys,ys = daysF p ∧ J ys W') ∨ (∃ pre,Jx pre W')):=by
  have hro:=L.r
  have h76:=L.f1
  have h107:=L.f2
  refine callsIn_of_wp Tryz.func167 rfl L.f3 ?_ hro
  simp only[Tryz.ntmps167,List.size_toArray,List.length_cons,List.length_nil,Nat.reduceAdd,Nat.reduceSub,Array.replicate_succ,Array.replicate_zero,List.push_toArray,List.append_toArray,List.nil_append,List.cons_append]
  have hBlt : Bn < W.heap.size:=(Array.getElem?_eq_some_iff.1 hb).1
  have cell : ∀ {W' : World},KpD n₀ Bn W W' → W'.cell? ⟨Bn,0,none⟩ = some (.int .i64 p.f) ∧ W'.cell? ⟨Bn,1,none⟩ = some (.int .i64 p.t) ∧ W'.cell? ⟨Bn,2,none⟩ = some (.int .i64 p.d):=fun hB=>by
    unfold World.cell?
    simp only[hB.2,hb]
    exact ⟨rfl,rfl,rfl⟩
  obtain ⟨d0,d1,d2⟩:=cell KpD.refl
  gi_wp2_with (gi_at_call 76;refine (L.chk p (n - 1) _ ht).mono ?_;rintro e w1 ⟨rfl,hg1⟩;have hB1:=grown_kp (Bn:=Bn) hg1 hn0 hBlt;obtain ⟨e0,e1,e2⟩:=cell hB1;have hJ1 : J [] w1:=hJ [] W w1 none h0 hg1 (fun r e=>by cases e))
  · have hne : pdF p ≠ 0:=by simpa using ‹(pdF p != 0) = true›
    refine bodyPost_ret (results_none rfl _ _ _) rfl ?_
    exact ⟨⟨_,rfl⟩,.inl ⟨[],by unfold daysF;rw[if_neg hne],hJ1⟩⟩
  · have hok : pdF p = 0:=by simpa using ‹(pdF p != 0) = false›
    obtain ⟨q1,q2,q3,q4,q5,q6⟩:=pd_ok hok
    simp only[hok,bne_self_eq_false]
    gi_loopw [3] (fun v wr=>∃ k : Nat,v = .int .i64 (p.f + (k : Nat)) ∧ k ≤ (p.t - p.f + 1).toNat ∧ J (daysTo p k) wr ∧ KpD n₀ Bn W wr)
      (fun v wr=>leftD p v)
    case atStart=>exact ⟨0,by simp,Nat.zero_le _,by simpa [daysTo] using hJ1,hB1⟩
    case round =>
      obtain ⟨k,rfl,hk,hJk,hBk⟩:=hrel
      obtain ⟨c0,c1,c2⟩:=cell hBk
      have htk : AL.TabOk AL.noPlace [] wr:=tab_keep ht htn hBk.1
      have hsz : W.heap.size ≤ wr.heap.size:=hBk.1.size
      gi_wp2_with (gi_at_call 107;refine (L.on p.d (p.f + (k : Nat)) q5 q6 (n - 1) _ htk).mono ?_;rintro e w2 ⟨rfl,hg2⟩;have hB2 : KpD n₀ Bn wr w2:=grown_kp hg2 (by omega) (by omega);have hJ2 : J (daysTo p k) w2:=hJ _ wr w2 none hJk hg2 (fun r e=>by cases e))
      · have hon : onF p.d (p.f + (k : Nat)) = true:=by assumption
        obtain ⟨fn,tmps,assign,body,hy,hR⟩:=hY (daysTo p k) (p.f + (k : Nat)) w2 hJ2 (by rw[daysF_eq hok];exact daysTo_lt p (by omega) hon)
        rw[hy]
        gi_wp2
        refine hR.mono ?_
        rintro e W3 (⟨rfl,hJ3,hk3⟩ | ⟨rfl,hJx3⟩)
        · gi_wp2
          go_roundw
          case rel=>exact ⟨k + 1,by simp [Int.add_assoc],by omega,by rw[daysTo_succ,if_pos hon];exact hJ3,(hBk.trans hB2).trans hk3⟩
          case measure=>simp only[leftD];omega
        · gi_wp2
          refine bodyPost_ret (results_none rfl _ _ _) rfl ?_
          exact ⟨⟨_,rfl⟩,.inr ⟨_,hJx3⟩⟩
      · refine ⟨fun f hf=>(by cases hf),?_⟩
        have hof : ¬ onF p.d (p.f + (k : Nat)) = true:=by
          assumption
        gi_wp2
        go_roundw
        case rel=>exact ⟨k + 1,by simp [Int.add_assoc],by omega,by rw[daysTo_succ,if_neg hof];exact hJ2,hBk.trans hB2⟩
        case measure=>simp only[leftD];omega
      · go_end0
        refine ⟨⟨_,rfl⟩,.inl ⟨_,?_,hJk⟩⟩
        rw[daysF_eq hok]
        congr 1
        omega
theorem each_stops (F : Fence) (L : Leaves F) (n : Nat) (hn : 1 ≤ n) (Bn n₀ : Nat) (p : Pd) (w : World) (hn0 : n₀ ≤ w.heap.size) (ht : AL.TabOk AL.noPlace [] w) (htn : ∀ q ∈ AL.tabs,q.1 < n₀)
    (hb : w.heap[Bn]? = some (.cells #[.int .i64 p.f,.int .i64 p.t,.int .i64 p.d] 38 (0,0))) :
    SeqStopsK F n Tryz.prog 167 #[.pointer (some ⟨Bn,0,none⟩)] (fun x : Int=>#[Value.int .i64 x]) (KpD n₀ Bn) (fun ys=>ys = daysF p) (fun _=>True) (daysF p).length w:=fun l J Jx W hW hJ _ hY h0 =>
  (each1_in F L n hn l Bn n₀ p J Jx hY W hJ (Nat.le_trans hn0 hW.size) (tab_keep ht htn (hW.mono hn0)) htn ((hW.block Bn (Array.getElem?_eq_some_iff.1 hb).1).trans hb) h0).mono
    fun e W' h=>⟨h.1,h.2.elim .inl fun ⟨pre,hp⟩=>.inr ⟨pre,trivial,hp⟩⟩
set_option maxHeartbeats 1000000 in
theorem each_in (F : Fence) (L : Leaves F) (n : Nat) (p : Pd) (w : World) :
    CallsIn F n Tryz.prog 137 #[.agg #[.int .i64 p.f,.int .i64 p.t,.int .i64 p.d]] w fun e w'=>e = .returned (.func (.func 167) #[] #[.pointer (some ⟨w.heap.size,0,none⟩)]) ∧ w' = w.alloc (.cells #[.int .i64 p.f,.int .i64 p.t,.int .i64 p.d] 38):=by
  have hro:=L.r
  refine callsIn_of_wp Tryz.func137 rfl L.f4 ?_ hro
  simp only[Tryz.ntmps137,List.size_toArray,List.length_cons,List.length_nil,Nat.reduceAdd,Nat.reduceSub,Array.replicate_succ,Array.replicate_zero,List.push_toArray,List.append_toArray,List.nil_append,List.cons_append]
  gi_wp2
  go_ret
  exact ⟨rfl,rfl⟩
theorem infoInt : (Tryz.prog.info? 3).map (fun i=>(i.zero,i.size,i.bytes)) = some (some (.int .i64 0),1,8):=by kernel_rfl
theorem box_not_row {W : World} {Bn e : Nat} {cs : Array Value} (hb : W.heap[Bn]? = some (.cells cs 38 (0,0))) (he : 38 ≠ e) {base size k : Nat} {v : Value} {xs : List Value} (hr : W.ownsRow base e size v k xs) : some Bn ≠ v.ownBlock:=by
  rcases hr.2 with ⟨rfl,_⟩ | ⟨g,cap,cur,rfl,_,hgb,_⟩
  · simp [Value.ownBlock]
  · intro e'
    obtain rfl : Bn = g:=by simpa [Value.ownBlock] using e'
    rw[hb] at hgb
    simp at hgb
    exact he hgb.2
theorem box_own (Bn k : Nat) (cs : Array Value) : OwnFrom k (fun (_ : List Int) W=>W.heap[Bn]? = some (.cells cs 38 (0,0))):=by
  rintro s A B row h hg hr
  refine (hg.block Bn (Array.getElem?_eq_some_iff.1 h).1 fun e=>?_).trans h
  obtain ⟨_,o,ho,hc⟩:=hr Bn e.symm
  rw[h] at ho
  cases ho
  cases hc
set_option maxRecDepth 100000 in
set_option maxHeartbeats 2000000 in
theorem days_in (F : Fence) (L : Leaves F) (n : Nat) (hn : 3 ≤ n) (p : Pd) (w : World) (ht : AL.TabOk AL.noPlace [] w) :
    CallsIn F n Tryz.prog 91 #[.agg #[.int .i64 p.f,.int .i64 p.t,.int .i64 p.d]] w fun e W'=>∃ v,e = .returned v ∧ W'.ownsRow w.heap.size 3 1 v (daysF p).length ((daysF p).map (Value.int .i64)) ∧ (v = .slice none 0 0 ↔ daysF p = []) ∧ Below w.heap.size w W':=by
  have hro:=L.r
  have h137:=L.f4
  have h1 : 1 ≤ n:=by omega
  have hlen : (daysF p).length ≤ 800:=by
    by_cases hok : pdF p = 0
    · rw[daysF_eq hok]
      have:=daysTo_len p (p.t - p.f + 1).toNat
      have:=pd_ok hok
      omega
    · unfold daysF;rw[if_neg hok];simp
  obtain ⟨i0,hi,hz0,hz1,hz2⟩:=info_parts infoInt
  refine callsIn_of_wp_marks Tryz.func91 rfl L.f5 ?_ hro
  simp only[Tryz.ntmps91,List.size_toArray,List.length_cons,List.length_nil,Nat.reduceAdd,Nat.reduceSub,Array.replicate_succ,Array.replicate_zero,List.push_toArray,List.append_toArray,List.nil_append,List.cons_append]
  gi_wp2_with (gi_at_call 137;refine (each_in F L (n - 1) p _).mono ?_;rintro e w' ⟨rfl,rfl⟩)
  have bO:=Boxed.new (w.alloc (.cells #[.int .i64 p.f,.int .i64 p.t,.int .i64 p.d] 38)) 87 (.slice none 0 0)
  rw[World.size_alloc] at bO
  have bN : (((w.alloc (.cells #[.int .i64 p.f,.int .i64 p.t,.int .i64 p.d] 38)).alloc (.cells #[.slice none 0 0] 87)).alloc (.cells #[.int .i64 p.f,.int .i64 p.t,.int .i64 p.d] 38)).heap[w.heap.size + 2]? = some (.cells #[.int .i64 p.f,.int .i64 p.t,.int .i64 p.d] 38 (0,0)):=by
    have:=World.alloc_heap_new ((w.alloc (.cells #[.int .i64 p.f,.int .i64 p.t,.int .i64 p.d] 38)).alloc (.cells #[.slice none 0 0] 87)) (.cells #[.int .i64 p.f,.int .i64 p.t,.int .i64 p.d] 38)
    simpa using this
  have hB0 : Below w.heap.size w (((w.alloc (.cells #[.int .i64 p.f,.int .i64 p.t,.int .i64 p.d] 38)).alloc (.cells #[.slice none 0 0] 87)).alloc (.cells #[.int .i64 p.f,.int .i64 p.t,.int .i64 p.d] 38)):=(((Below.refl _ w).alloc (Nat.le_refl _) _).alloc (by simp) _).alloc (by simp;omega) _
  refine wpIn_rangeFunc_ownG hro h1 (gf:=167) (lb:=#[.pointer (some ⟨w.heap.size + 2,0,none⟩)]) (by simp [Act.eval]) L.f3 (enters_of Tryz.func167 (by kernel_rfl) rfl)
    (each_stops F L (n - 1) (by omega) (w.heap.size + 2) w.heap.size p _ (by simp;omega) (tab_keep ht (tab_lt ht) hB0) (tab_lt ht) bN) KpD.trans (fun W l o o' hl hb k1 k2=>⟨belowK_b (w:=w) (Nat.le_refl _) W l o o' (by simp at hl;omega) hb k1 k2,World.putObj_heap_other (by simp at hl;omega)⟩) (Below.refl _ _) (fun _=>rfl)
    (fun pre W=>((∃ v,Boxed W (w.heap.size + 1) 87 v ∧ W.ownsRow w.heap.size 3 1 v pre.length (pre.map (Value.int .i64)) ∧ (v = .slice none 0 0 ↔ pre = [])) ∧ W.heap[w.heap.size + 2]? = some (.cells #[.int .i64 p.f,.int .i64 p.t,.int .i64 p.d] 38 (0,0))) ∧ Below w.heap.size w W)
    (fun _ _ _=>False)
    (OwnFrom.and (OwnFrom.and (Own.from (holdsRow_own w.heap.size (w.heap.size + 1) 87 3 1 (fun pre : List Int=>pre.length) (fun pre=>pre.map (Value.int .i64)) (fun pre v=>v = .slice none 0 0 ↔ pre = [])) _) (box_own _ _ _)) (ownFrom_below (Nat.le_refl _) (by simp;omega)))
    (fun _ _ _ _ _ hs _ _=>hs)
    ⟨⟨⟨_,bO.alloc _,World.ownsRow_nil _ _ _ _,by simp⟩,bN⟩,hB0⟩
    (fun x=>{ tmps:=#[.agg #[.int .i64 p.f,.int .i64 p.t,.int .i64 p.d],.pointer (some ⟨w.heap.size,0,none⟩),.slice none 0 0,.pointer (some ⟨w.heap.size + 1,0,none⟩),.int .i64 x,.agg #[.int .i64 p.f,.int .i64 p.t,.int .i64 p.d],.func (.func 167) #[] #[.pointer (some ⟨w.heap.size + 2,0,none⟩)],.int .i64 x,undef,undef,undef,undef,undef],defers:=[] }) ?assign ?body ?done ?stop
  case assign =>
    intro l x W K hK
    gi_wp2
    exact hK
  case body =>
    rintro l pre x W ⟨⟨⟨v,hv,hrow,hnil⟩,hbx⟩,hB⟩ hlt
    have hc:=hv.cell
    have hnr:=box_not_row hbx (by decide) hrow
    have hml : pre.length + 1 ≤ maxLen:=by unfold maxLen;omega
    have hps : pre.length + 1 ≤ 800:=by omega
    gi_wp2_with (gi_at_builtin;refine wpListIn_append_own _ rfl _ _ 87 rfl w.heap.size 3 i0 (.int .i64 0) 1 8 Tryz.underlying87 hi hz0 hz1 hz2 rfl (by decide) _ _ _ rfl (hrow.alloc _) ⟨W.heap.size,0,none⟩ 1 1 [.int .i64 x] rfl rfl (cell_one_new _ _ _) (by simp [Value.oneCell']) (by omega) (by omega) (by have:=hB.size;simp;omega) ?_;intro v' w1 hown' hgrow _;obtain ⟨g',cap',rfl⟩:=ownsRow_succ hown';obtain ⟨hv1,hv2,hr2,hk2,hb2⟩:=hv.appended (by decide) hrow hB.size (by omega) hown' hgrow;have hc1:=hv1.cell;have hf1:=hv1.frozen)
    have hbx1 : w1.heap[w.heap.size + 2]? = some (.cells #[.int .i64 p.f,.int .i64 p.t,.int .i64 p.d] 38 (0,0)):=by
      have hlt2:=(Array.getElem?_eq_some_iff.1 hbx).1
      rw[hgrow.block _ (by simp;omega) hnr,Below.heap_alloc _ _ _ hlt2]
      exact hbx
    have hbx2:=(Below.heap_setCell w1 ⟨w.heap.size + 1,0,none⟩ (.slice (some ⟨g',0,none⟩) (pre.length + 1) cap') (w.heap.size + 2) (by simp)).trans hbx1
    refine ⟨hk2.from _,⟨hb2,hbx2.trans hbx.symm⟩,⟨⟨_,hv2,by simpa using hr2,by simp⟩,hbx2⟩,hB.trans hb2⟩
  case done =>
    rintro D ys W hD rfl ⟨⟨⟨v,hv,hrow,hnil⟩,hbx⟩,hB⟩ hK
    have hc:=hv.cell
    gi_wp2
    refine ⟨by simp,.inl ⟨_,_,rfl,run_takeDeferred hK,?_⟩⟩
    exact ⟨_,results_tmp rfl _ _ _,v,rfl,ownsRow_putObj hrow _ hK rfl,hnil,hB.trans (belowK_b (w:=w) (Nat.le_refl _) W D _ _ (by simp at hD;omega) hK rfl rfl)⟩
  case stop =>
    rintro D c pre W _ _ h _
    exact h.elim
end Go.Proofs.YtiihkfjbllpiaaaGreatDoor
