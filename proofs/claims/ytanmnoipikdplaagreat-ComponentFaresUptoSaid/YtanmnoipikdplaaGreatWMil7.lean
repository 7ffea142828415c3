/- The reference: the shortest way. -/
import Derived.Test.YtanmnoipikdplaaGreatWMil4
namespace Go.Proofs.YtanmnoipikdplaaGreat.Ml
open Go Go.AL
set_option linter.unusedSectionVars false
variable [Go.AL.Mode]
set_option linter.unusedSimpArgs false
set_option linter.unusedVariables false
def namesF (ds : List Dst) (f : Txt) : List Txt:=f :: ds.flatMap fun d=>[d.fr,d.to]
def start (f : Txt) : Spots:=[(f,0)]
def cloF (ds : List Dst) (f : Txt) : Spots:=closeF ds (rank (namesF ds f) (start f) + 1) (start f)
def milesF (p : List Apt × List Dst) (a b : Txt) : Int × Int :=
  if cityF p.1 a = [] ∨ cityF p.1 b = [] then (0,14)
  else match look (cloF p.2 (cityF p.1 a)) (cityF p.1 b) with
    | some n=>(n,0)
    | none=>(0,7)
theorem names_mem {ds : List Dst} {f : Txt} : ∀ d ∈ ds,d.fr ∈ namesF ds f ∧ d.to ∈ namesF ds f:=fun d hd =>
  ⟨List.mem_cons_of_mem _ (List.mem_flatMap.2 ⟨d,hd,by simp⟩),List.mem_cons_of_mem _ (List.mem_flatMap.2 ⟨d,hd,by simp⟩)⟩
theorem names_len (ds : List Dst) (f : Txt) : (namesF ds f).length = 2 * ds.length + 1:=by
  unfold namesF
  rw[List.length_cons,List.length_flatMap]
  congr 1
  induction ds with
  | nil=>rfl
  | cons d ds ih=>simp only[List.map_cons,List.sum_cons,List.length_cons,List.length_nil] at ih ⊢;omega
theorem start_inv (ds : List Dst) (f : Txt) : InvL (namesF ds f) (start f):=by
  have : un (namesF ds f) (start f) ≤ (namesF ds f).length:=List.length_filter_le _ _
  refine ⟨fun p hp=>?_,by simp only[start,List.length_cons,List.length_nil] at this ⊢;omega⟩
  simp only[start,List.mem_singleton] at hp
  subst hp
  refine ⟨Int.le_refl _,?_⟩
  simp only
  omega
theorem cloF_clo (ds : List Dst) (f : Txt) : Clo ds (start f) (cloF ds f):=closeF_clo names_mem _ _ (start_inv ds f) (Nat.lt_succ_self _)
def Head (ds : List Dst) (N : List Txt) (R l : Spots) (more : Bool) : Prop:=InvL N l ∧ if more then Clo ds l R else l = R
theorem head_next {ds : List Dst} {N : List Txt} {R l : Spots} (hd : ∀ d ∈ ds,d.fr ∈ N ∧ d.to ∈ N) (h : Head ds N R l true) : Head ds N R (roundF ds l).1 (roundF ds l).2 ∧ (if (roundF ds l).2 then rank N (roundF ds l).1 + 1 else 0) < rank N l + 1:=by
  obtain ⟨hi,hc⟩:=h
  simp only[if_true] at hc
  have hs:=round_sofar hi ds hd (l,false) ⟨hi,.inl ⟨rfl,rfl⟩⟩
  have hs1 : InvL N (roundF ds l).1:=hs.1
  cases hb : (roundF ds l).2 with
  | false =>
    refine ⟨⟨hs1,?_⟩,by simp⟩
    cases hc with
    | stop h=>simp
    | more h k=>rw[hb] at h;cases h
  | true =>
    have hlt : rank N (roundF ds l).1 < rank N l:=by
      rcases hs.2 with ⟨h1,_⟩ | ⟨_,h2⟩
      · rw[show (ds.foldl stepF (l,false)).2 = true from hb] at h1;cases h1
      · exact h2
    refine ⟨⟨hs1,?_⟩,by simp;exact hlt⟩
    cases hc with
    | stop h=>rw[hb] at h;cases h
    | more h k=>simpa using k
theorem fold_take {ds : List Dst} {k : Nat} {d : Dst} {s0 : Spots × Bool} (h : ds[k]? = some d) : (ds.take (k + 1)).foldl stepF s0 = stepF ((ds.take k).foldl stepF s0) d:=by
  rw[List.take_add_one,h,List.foldl_append];rfl
theorem take_mem {ds : List Dst} {N : List Txt} (hd : ∀ d ∈ ds,d.fr ∈ N ∧ d.to ∈ N) (k : Nat) : ∀ d ∈ ds.take k,d.fr ∈ N ∧ d.to ∈ N:=fun d h=>hd d (List.mem_of_mem_take h)
theorem refmiles_A (p : List Apt × List Dst) (a b : Txt) (S : Store) (hl : p.1.length ≤ 1048576) (hd : p.2.length ≤ 1000) :
    CallA Tryz.prog 96 [plV p,.str a,.str b] S fun r S'=>r = .tup [.int .i64 (milesF p a b).1,.int .i64 (milesF p a b).2] ∧ S' = S:=by
  refine CallA.withNeat Tryz.func96 c4020 fun hn=>?_
  refine CallA.fin Tryz.func96 c4020 (Nat.le_of_ble_eq_true rfl) fun σ hσ=>?_
  simp (disch:=first|omega|(simp only[lenT];omega)) only[a4020,plV,aSl,dSl,evSt,↓eA,eB,evU,seval]
  refine exD.intro (rcity_A p a S hl) ?_
  simp (disch:=first|omega|(simp only[lenT];omega)) only[aSl,dSl,evSt,↓eA,eB,evU,seval]
  refine (rcity_A p b S hl).then ?_
  unfold milesF
  generalize cityF p.1 a = f
  generalize cityF p.1 b = t
  by_cases hf : f = []
  · subst hf
    simp (disch:=first|omega|(simp only[lenT];omega)) only[eq_self,true_or,if_true,↓eA,eB,evU,seval]
    exact ⟨_,S,hn.self,.imm rfl,Nat.le_refl _,rfl,rfl⟩
  by_cases ht : t = []
  · subst ht
    simp (disch:=first|omega|(simp only[lenT];omega)) only[hf,eq_self,or_true,if_true,decide_false,↓eA,eB,evU,seval]
    exact ⟨_,S,hn.self,.imm rfl,Nat.le_refl _,rfl,rfl⟩
  have hnl:=names_len p.2 f
  have hnm:=names_mem (ds:=p.2) (f:=f)
  generalize hN : namesF p.2 f = N at hnl hnm
  simp (disch:=first|omega|(simp only[lenT];omega)) only[hf,ht,or_self,if_false,decide_false,evSt,↓eA,eB,evU,seval]
  refine loopF (ι:=Nat × Spots × Bool) (fun i=>[(3,.cptr [aSl p.1,dSl p.2]),(9,.str t),(10,.msl S.length i.1 0 i.2.1.length),(11,.bool i.2.2)]) (fun i=>S ++ [⟨i.1,some (.arr 166 2 (i.2.1.map spR))⟩])
    (fun i=>Head p.2 N (cloF p.2 f) i.2.1 i.2.2) (fun i=>if i.2.2 then rank N i.2.1 + 1 else 0) (fun i hi=>by rw[hσ];simp) (0,start f,true) ⟨by rw[← hN];exact start_inv _ _,by simp only[if_true];exact cloF_clo _ _⟩ (.inl ⟨?_,?_⟩) ?_
  · simp only[start,aSl,dSl,↓eA,eB,evU,seval]
  · rfl
  · rintro ⟨w,l,more⟩ hh
    simp only at hh ⊢
    cases more with
    | false =>
      obtain ⟨hi,he⟩:=hh
      simp only[Bool.false_eq_true,if_false] at he
      rw[← he]
      have hlen:=hi.2
      simp (disch:=first|omega|(simp only[lenT];omega)) only[evSt,↓eA,eB,evU,seval]
      refine (reached_A l t S [] w (by omega)).then2 ?_
      cases hk : look l t with
      | none =>
        have e : lookI l t = -1:=by rw[lookI,hk]
        simp (disch:=first|omega|(simp only[lenT];omega)) only[e,Int.reduceNeg,Int.reduceLT,evSt,↓eA,eB,evU,seval]
        exact ⟨_,S,hn.fgt _,.imm rfl,Nat.le_refl _,rfl,rfl⟩
      | some v =>
        have e : lookI l t = v:=by rw[lookI,hk]
        have hv:=(hi.1 _ (look_mem hk)).1
        have hv2 : ¬ v < 0:=by simp only at hv;omega
        simp (disch:=first|omega|(simp only[lenT];omega)) only[e,hv2,decide_false,evSt,↓eA,eB,evU,seval]
        exact ⟨_,S,hn.fgt _,.imm rfl,Nat.le_refl _,rfl,rfl⟩
    | true =>
      have hnx:=head_next hnm hh
      have hi:=hh.1
      simp (disch:=first|omega|(simp only[lenT];omega)) only[dSl,evSt,↓eA,eB,evU,seval]
      refine loopF (ι:=Nat × Nat) (fun i=>[(3,.cptr [aSl p.1,dSl p.2]),(9,.str t),(10,.msl S.length i.1 0 ((p.2.take i.2).foldl stepF (l,false)).1.length),(11,.bool ((p.2.take i.2).foldl stepF (l,false)).2),(12,.int .i64 i.2)])
        (fun i=>S ++ [⟨i.1,some (.arr 166 2 (((p.2.take i.2).foldl stepF (l,false)).1.map spR))⟩]) (fun i=>i.2 ≤ p.2.length) (fun i=>p.2.length - i.2) (fun i hi=>by rw[hσ];simp) (w,0) (Nat.zero_le _) (.inl ⟨?_,?_⟩) ?_
      · simp only[aSl,dSl,List.foldl_nil,↓eA,eB,evU,seval]
      · rfl
      · rintro ⟨w',k⟩ hk
        simp only at hk ⊢
        have hso:=round_sofar hi (p.2.take k) (take_mem hnm k) (l,false) ⟨hi,.inl ⟨rfl,rfl⟩⟩
        cases hdk : p.2[k]? with
        | none =>
          have hlt : ¬ ((k : Int) < p.2.length):=by rw[List.getElem?_eq_none_iff] at hdk;omega
          rw[List.take_of_length_le (List.getElem?_eq_none_iff.1 hdk)]
          simp (disch:=first|omega|(simp only[lenT];omega)) only[aSl,dSl,dstR,wrap_i64,hdk,hlt,decide_false,evSt,↓eA,eB,evU,seval]
          exact ⟨(w',roundF p.2 l),hnx.1,hnx.2,.inl ⟨⟨rfl,rfl,rfl,rfl,trivial⟩,rfl⟩⟩
        | some d =>
          have hlt':=(List.getElem?_eq_some_iff.1 hdk).1
          have hlt : (k : Int) < p.2.length:=by omega
          have hstep:=fold_take (s0:=(l,false)) hdk
          rw[← refStep_eq] at hstep
          generalize hS : (p.2.take k).foldl stepF (l,false) = s at hso hstep
          obtain ⟨l1,b1⟩:=s
          have hi1 : InvL N l1:=hso.1
          have hln:=hi1.2
          have fin : ∀ (w2 : Nat) (l2 : Spots) (b2 : Bool) (T : Store) (E : Env),refStepF (l1,b1) d = (l2,b2) → sub [(3,.cptr [aSl p.1,dSl p.2]),(9,.str t),(10,.msl S.length w2 0 l2.length),(11,.bool b2),(12,.int .i64 (k + 1))] E →
              ∃ i' : Nat × Nat,i'.2 ≤ p.2.length ∧ p.2.length - i'.2 < p.2.length - k ∧ Back [(3,.cptr [aSl p.1,dSl p.2]),(9,.str t),(10,.msl S.length i'.1 0 ((p.2.take i'.2).foldl stepF (l,false)).1.length),(11,.bool ((p.2.take i'.2).foldl stepF (l,false)).2),(12,.int .i64 i'.2)] (S ++ [⟨i'.1,some (.arr 166 2 (((p.2.take i'.2).foldl stepF (l,false)).1.map spR))⟩]) E (S ++ ⟨w2,some (.arr 166 2 (l2.map spR))⟩ :: T):=by
            intro w2 l2 b2 T E hr hE
            rw[hr] at hstep
            refine ⟨(w2,k + 1),by simp only;omega,by simp only;omega,?_⟩
            simp only[hstep]
            refine back_under ?_ hE (by simp [V.under,aSl,dSl,V.allUnder])
            exact hn.fgtL (L:=_ :: T) (L1:=[_]) ⟨rfl,⟨_,rfl,.imm (fun r hr=>by obtain ⟨q,_,rfl⟩:=List.mem_map.1 hr;exact ⟨rfl,rfl⟩)⟩,by cases T<;>trivial⟩
          simp (disch:=first|omega|(simp only[lenT];omega)) only[aSl,dSl,dstR,wrap_i64,hdk,hlt,decide_false,evSt,↓eA,eB,evU,seval]
          refine (rusable_A d _).then ?_
          cases hu : usableF d with
          | false =>
            simp (disch:=first|omega|(simp only[lenT];omega)) only[aSl,dSl,dstR,wrap_i64,hdk,hlt,decide_false,evSt,↓eA,eB,evU,seval]
            exact fin w' l1 b1 _ _ (by simp only[refStepF,hu,Bool.false_eq_true,if_false]) ⟨rfl,rfl,rfl,rfl,rfl,trivial⟩
          | true =>
            have hmi : 1 ≤ d.mi ∧ d.mi ≤ 20000:=by simpa [usableF] using hu
            simp (disch:=first|omega|(simp only[lenT];omega)) only[aSl,dSl,dstR,wrap_i64,hdk,hlt,decide_false,evSt,↓eA,eB,evU,seval]
            refine exD.intro (reached_A l1 d.fr S _ w' (by omega)) ?_
            simp (disch:=first|omega|(simp only[lenT];omega)) only[aSl,dSl,dstR,wrap_i64,hdk,hlt,decide_false,evSt,↓eA,eB,evU,seval]
            refine (reached_A l1 d.to S _ w' (by omega)).then2 ?_
            have hdm:=hnm d (List.mem_of_getElem? hdk)
            have hneg : ¬ (0 : Int) ≤ -1:=by decide
            cases b1
            · skip
              cases hx : look l1 d.fr with
              | none =>
                have ex : lookI l1 d.fr = -1:=by rw[lookI,hx]
                cases hy : look l1 d.to with
                | none =>
                  have ey : lookI l1 d.to = -1:=by rw[lookI,hy]
                  simp (disch:=first|omega|(simp only[lenT];omega)) only[ex,ey,hneg,aSl,dSl,dstR,wrap_i64,hdk,hlt,decide_false,evSt,↓eA,eB,evU,seval]
                  exact fin w' l1 _ _ _ (by simp only[refStepF,hu,hx,hy,if_true];rfl) ⟨rfl,rfl,rfl,rfl,rfl,trivial⟩
                | some y =>
                  have ey : lookI l1 d.to = y:=by rw[lookI,hy]
                  have hy0:=hi1.1 _ (look_mem hy)
                  simp only at hy0
                  simp (disch:=first|omega|(simp only[lenT];omega)) only[ex,ey,hneg,hy0.1,aSl,dSl,dstR,wrap_i64,hdk,hlt,decide_false,evSt,↓eA,eB,evU,seval]
                  refine (reach_A l1 d.fr (y + d.mi) S _ w' (by omega)).mono ?_
                  rintro _ _ ⟨w3,rfl,rfl⟩
                  generalize hA3 : reachF l1 d.fr (y + d.mi) = A3 at *
                  obtain ⟨l3,b3⟩:=A3
                  cases b3
                  · simp (disch:=first|omega|(simp only[lenT];omega)) only[aSl,dSl,dstR,wrap_i64,hdk,hlt,decide_false,evSt,↓eA,eB,evU,seval]
                    exact fin w3 l3 _ _ _ (by simp only[refStepF,hu,hx,hy,hA3,if_true];rfl) ⟨rfl,rfl,rfl,rfl,rfl,trivial⟩
                  · simp (disch:=first|omega|(simp only[lenT];omega)) only[aSl,dSl,dstR,wrap_i64,hdk,hlt,decide_false,evSt,↓eA,eB,evU,seval]
                    exact fin w3 l3 _ _ _ (by simp only[refStepF,hu,hx,hy,hA3,if_true];rfl) ⟨rfl,rfl,rfl,rfl,rfl,trivial⟩
              | some x =>
                have ex : lookI l1 d.fr = x:=by rw[lookI,hx]
                have hx0:=hi1.1 _ (look_mem hx)
                simp only at hx0
                have hr2:=(reach_less hi1 hdm.2 ⟨_,hx⟩ hmi.1 hmi.2).1
                cases hy : look l1 d.to with
                | none =>
                  have ey : lookI l1 d.to = -1:=by rw[lookI,hy]
                  simp (disch:=first|omega|(simp only[lenT];omega)) only[ex,ey,hneg,hx0.1,aSl,dSl,dstR,wrap_i64,hdk,hlt,decide_false,evSt,↓eA,eB,evU,seval]
                  refine (reach_A l1 d.to (x + d.mi) S _ w' (by omega)).mono ?_
                  rintro _ _ ⟨w2,rfl,rfl⟩
                  generalize hA2 : reachF l1 d.to (x + d.mi) = A2 at *
                  obtain ⟨l2,b2⟩:=A2
                  cases b2
                  · simp (disch:=first|omega|(simp only[lenT];omega)) only[hneg,aSl,dSl,dstR,wrap_i64,hdk,hlt,decide_false,evSt,↓eA,eB,evU,seval]
                    exact fin w2 l2 _ _ _ (by simp only[refStepF,hu,hx,hy,hA2,if_true];rfl) ⟨rfl,rfl,rfl,rfl,rfl,trivial⟩
                  · simp (disch:=first|omega|(simp only[lenT];omega)) only[hneg,aSl,dSl,dstR,wrap_i64,hdk,hlt,decide_false,evSt,↓eA,eB,evU,seval]
                    exact fin w2 l2 _ _ _ (by simp only[refStepF,hu,hx,hy,hA2,if_true];rfl) ⟨rfl,rfl,rfl,rfl,rfl,trivial⟩
                | some y =>
                  have ey : lookI l1 d.to = y:=by rw[lookI,hy]
                  have hy0:=hi1.1 _ (look_mem hy)
                  simp only at hy0
                  simp (disch:=first|omega|(simp only[lenT];omega)) only[ex,ey,hx0.1,hy0.1,aSl,dSl,dstR,wrap_i64,hdk,hlt,decide_false,evSt,↓eA,eB,evU,seval]
                  refine (reach_A l1 d.to (x + d.mi) S _ w' (by omega)).mono ?_
                  rintro _ _ ⟨w2,rfl,rfl⟩
                  generalize hA2 : reachF l1 d.to (x + d.mi) = A2 at *
                  obtain ⟨l2,b2⟩:=A2
                  have hln2:=hr2.2
                  simp only at hln2
                  cases b2
                  · simp (disch:=first|omega|(simp only[lenT];omega)) only[hy0.1,aSl,dSl,dstR,wrap_i64,hdk,hlt,decide_false,evSt,↓eA,eB,evU,seval]
                    refine (reach_A l2 d.fr (y + d.mi) S _ w2 (by omega)).mono ?_
                    rintro _ _ ⟨w3,rfl,rfl⟩
                    generalize hA3 : reachF l2 d.fr (y + d.mi) = A3 at *
                    obtain ⟨l3,b3⟩:=A3
                    cases b3
                    · simp (disch:=first|omega|(simp only[lenT];omega)) only[aSl,dSl,dstR,wrap_i64,hdk,hlt,decide_false,evSt,↓eA,eB,evU,seval]
                      exact fin w3 l3 _ _ _ (by simp only[refStepF,hu,hx,hy,hA2,hA3,if_true];rfl) ⟨rfl,rfl,rfl,rfl,rfl,trivial⟩
                    · simp (disch:=first|omega|(simp only[lenT];omega)) only[aSl,dSl,dstR,wrap_i64,hdk,hlt,decide_false,evSt,↓eA,eB,evU,seval]
                      exact fin w3 l3 _ _ _ (by simp only[refStepF,hu,hx,hy,hA2,hA3,if_true];rfl) ⟨rfl,rfl,rfl,rfl,rfl,trivial⟩
                  · simp (disch:=first|omega|(simp only[lenT];omega)) only[hy0.1,aSl,dSl,dstR,wrap_i64,hdk,hlt,decide_false,evSt,↓eA,eB,evU,seval]
                    refine (reach_A l2 d.fr (y + d.mi) S _ w2 (by omega)).mono ?_
                    rintro _ _ ⟨w3,rfl,rfl⟩
                    generalize hA3 : reachF l2 d.fr (y + d.mi) = A3 at *
                    obtain ⟨l3,b3⟩:=A3
                    cases b3
                    · simp (disch:=first|omega|(simp only[lenT];omega)) only[aSl,dSl,dstR,wrap_i64,hdk,hlt,decide_false,evSt,↓eA,eB,evU,seval]
                      exact fin w3 l3 _ _ _ (by simp only[refStepF,hu,hx,hy,hA2,hA3,if_true];rfl) ⟨rfl,rfl,rfl,rfl,rfl,trivial⟩
                    · simp (disch:=first|omega|(simp only[lenT];omega)) only[aSl,dSl,dstR,wrap_i64,hdk,hlt,decide_false,evSt,↓eA,eB,evU,seval]
                      exact fin w3 l3 _ _ _ (by simp only[refStepF,hu,hx,hy,hA2,hA3,if_true];rfl) ⟨rfl,rfl,rfl,rfl,rfl,trivial⟩
            · skip
              cases hx : look l1 d.fr with
              | none =>
                have ex : lookI l1 d.fr = -1:=by rw[lookI,hx]
                cases hy : look l1 d.to with
                | none =>
                  have ey : lookI l1 d.to = -1:=by rw[lookI,hy]
                  simp (disch:=first|omega|(simp only[lenT];omega)) only[ex,ey,hneg,aSl,dSl,dstR,wrap_i64,hdk,hlt,decide_false,evSt,↓eA,eB,evU,seval]
                  exact fin w' l1 _ _ _ (by simp only[refStepF,hu,hx,hy,if_true];rfl) ⟨rfl,rfl,rfl,rfl,rfl,trivial⟩
                | some y =>
                  have ey : lookI l1 d.to = y:=by rw[lookI,hy]
                  have hy0:=hi1.1 _ (look_mem hy)
                  simp only at hy0
                  simp (disch:=first|omega|(simp only[lenT];omega)) only[ex,ey,hneg,hy0.1,aSl,dSl,dstR,wrap_i64,hdk,hlt,decide_false,evSt,↓eA,eB,evU,seval]
                  refine (reach_A l1 d.fr (y + d.mi) S _ w' (by omega)).mono ?_
                  rintro _ _ ⟨w3,rfl,rfl⟩
                  generalize hA3 : reachF l1 d.fr (y + d.mi) = A3 at *
                  obtain ⟨l3,b3⟩:=A3
                  cases b3
                  · simp (disch:=first|omega|(simp only[lenT];omega)) only[aSl,dSl,dstR,wrap_i64,hdk,hlt,decide_false,evSt,↓eA,eB,evU,seval]
                    exact fin w3 l3 _ _ _ (by simp only[refStepF,hu,hx,hy,hA3,if_true];rfl) ⟨rfl,rfl,rfl,rfl,rfl,trivial⟩
                  · simp (disch:=first|omega|(simp only[lenT];omega)) only[aSl,dSl,dstR,wrap_i64,hdk,hlt,decide_false,evSt,↓eA,eB,evU,seval]
                    exact fin w3 l3 _ _ _ (by simp only[refStepF,hu,hx,hy,hA3,if_true];rfl) ⟨rfl,rfl,rfl,rfl,rfl,trivial⟩
              | some x =>
                have ex : lookI l1 d.fr = x:=by rw[lookI,hx]
                have hx0:=hi1.1 _ (look_mem hx)
                simp only at hx0
                have hr2:=(reach_less hi1 hdm.2 ⟨_,hx⟩ hmi.1 hmi.2).1
                cases hy : look l1 d.to with
                | none =>
                  have ey : lookI l1 d.to = -1:=by rw[lookI,hy]
                  simp (disch:=first|omega|(simp only[lenT];omega)) only[ex,ey,hneg,hx0.1,aSl,dSl,dstR,wrap_i64,hdk,hlt,decide_false,evSt,↓eA,eB,evU,seval]
                  refine (reach_A l1 d.to (x + d.mi) S _ w' (by omega)).mono ?_
                  rintro _ _ ⟨w2,rfl,rfl⟩
                  generalize hA2 : reachF l1 d.to (x + d.mi) = A2 at *
                  obtain ⟨l2,b2⟩:=A2
                  cases b2
                  · simp (disch:=first|omega|(simp only[lenT];omega)) only[hneg,aSl,dSl,dstR,wrap_i64,hdk,hlt,decide_false,evSt,↓eA,eB,evU,seval]
                    exact fin w2 l2 _ _ _ (by simp only[refStepF,hu,hx,hy,hA2,if_true];rfl) ⟨rfl,rfl,rfl,rfl,rfl,trivial⟩
                  · simp (disch:=first|omega|(simp only[lenT];omega)) only[hneg,aSl,dSl,dstR,wrap_i64,hdk,hlt,decide_false,evSt,↓eA,eB,evU,seval]
                    exact fin w2 l2 _ _ _ (by simp only[refStepF,hu,hx,hy,hA2,if_true];rfl) ⟨rfl,rfl,rfl,rfl,rfl,trivial⟩
                | some y =>
                  have ey : lookI l1 d.to = y:=by rw[lookI,hy]
                  have hy0:=hi1.1 _ (look_mem hy)
                  simp only at hy0
                  simp (disch:=first|omega|(simp only[lenT];omega)) only[ex,ey,hx0.1,hy0.1,aSl,dSl,dstR,wrap_i64,hdk,hlt,decide_false,evSt,↓eA,eB,evU,seval]
                  refine (reach_A l1 d.to (x + d.mi) S _ w' (by omega)).mono ?_
                  rintro _ _ ⟨w2,rfl,rfl⟩
                  generalize hA2 : reachF l1 d.to (x + d.mi) = A2 at *
                  obtain ⟨l2,b2⟩:=A2
                  have hln2:=hr2.2
                  simp only at hln2
                  cases b2
                  · simp (disch:=first|omega|(simp only[lenT];omega)) only[hy0.1,aSl,dSl,dstR,wrap_i64,hdk,hlt,decide_false,evSt,↓eA,eB,evU,seval]
                    refine (reach_A l2 d.fr (y + d.mi) S _ w2 (by omega)).mono ?_
                    rintro _ _ ⟨w3,rfl,rfl⟩
                    generalize hA3 : reachF l2 d.fr (y + d.mi) = A3 at *
                    obtain ⟨l3,b3⟩:=A3
                    cases b3
                    · simp (disch:=first|omega|(simp only[lenT];omega)) only[aSl,dSl,dstR,wrap_i64,hdk,hlt,decide_false,evSt,↓eA,eB,evU,seval]
                      exact fin w3 l3 _ _ _ (by simp only[refStepF,hu,hx,hy,hA2,hA3,if_true];rfl) ⟨rfl,rfl,rfl,rfl,rfl,trivial⟩
                    · simp (disch:=first|omega|(simp only[lenT];omega)) only[aSl,dSl,dstR,wrap_i64,hdk,hlt,decide_false,evSt,↓eA,eB,evU,seval]
                      exact fin w3 l3 _ _ _ (by simp only[refStepF,hu,hx,hy,hA2,hA3,if_true];rfl) ⟨rfl,rfl,rfl,rfl,rfl,trivial⟩
                  · simp (disch:=first|omega|(simp only[lenT];omega)) only[hy0.1,aSl,dSl,dstR,wrap_i64,hdk,hlt,decide_false,evSt,↓eA,eB,evU,seval]
                    refine (reach_A l2 d.fr (y + d.mi) S _ w2 (by omega)).mono ?_
                    rintro _ _ ⟨w3,rfl,rfl⟩
                    generalize hA3 : reachF l2 d.fr (y + d.mi) = A3 at *
                    obtain ⟨l3,b3⟩:=A3
                    cases b3
                    · simp (disch:=first|omega|(simp only[lenT];omega)) only[aSl,dSl,dstR,wrap_i64,hdk,hlt,decide_false,evSt,↓eA,eB,evU,seval]
                      exact fin w3 l3 _ _ _ (by simp only[refStepF,hu,hx,hy,hA2,hA3,if_true];rfl) ⟨rfl,rfl,rfl,rfl,rfl,trivial⟩
                    · simp (disch:=first|omega|(simp only[lenT];omega)) only[aSl,dSl,dstR,wrap_i64,hdk,hlt,decide_false,evSt,↓eA,eB,evU,seval]
                      exact fin w3 l3 _ _ _ (by simp only[refStepF,hu,hx,hy,hA2,hA3,if_true];rfl) ⟨rfl,rfl,rfl,rfl,rfl,trivial⟩
end Go.Proofs.YtanmnoipikdplaaGreat.Ml
/- places: the shortest way. -/
namespace Go.Proofs.YtanmnoipikdplaaGreat.Ml
open Go Go.AL
set_option linter.unusedSectionVars false
variable [Go.AL.Mode]
set_option linter.unusedSimpArgs false
set_option linter.unusedVariables false
def MapL (l : Spots) (rows : List (V × V)) : Prop:=KeysK V.str rows ∧ ∀ c,findV (.str c) rows = (look l c).map (V.int .i64)
theorem MapL.put {l : Spots} {rows : List (V × V)} {c : Txt} {m : Int} (h : MapL l rows) : MapL (putL l c m) (putV (.str c) (.int .i64 m) rows):=by
  refine ⟨h.1.put rfl rfl,fun b=>?_⟩
  rw[find_put (K:=V.str) (fun a b=>eqKV_str) h.1,look_put]
  by_cases e : b = c
  · rw[if_pos e,if_pos e.symm];rfl
  · rw[if_neg e,if_neg (fun h=>e h.symm)];exact h.2 b
theorem relax_A (l : Spots) (x y : Txt) (n : Int) (S T : Store) (rows : List (V × V)) (hm : MapL l rows) (hb : ∀ p ∈ l,0 ≤ p.2 ∧ p.2 ≤ 1000000000) (hn : 1 ≤ n ∧ n ≤ 20000) :
    CallA Tryz.prog 123 [.str x,.str y,.int .i64 n,.ptr (S.length + 1) 0 0 0] (S ++ ⟨0,some (.mp ⟨.one .str,rows,.free⟩)⟩ :: ⟨0,some (.arr 159 1 [[.mapv S.length 0]])⟩ :: T) fun r S'=>r = .bool (relaxF l x y n).2 ∧ ∃ rows',MapL (relaxF l x y n).1 rows' ∧ S' = S ++ ⟨0,some (.mp ⟨.one .str,rows',.free⟩)⟩ :: ⟨0,some (.arr 159 1 [[.mapv S.length 0]])⟩ :: T:=by
  refine CallA.keep Tryz.func123 c4028 (Nat.le_of_ble_eq_true rfl) fun σ hσ=>?_
  have fx:=hm.2 x
  have fy:=hm.2 y
  cases hx : look l x with
  | none =>
    rw[hx,Option.map_none] at fx
    cases hy : look l y with
    | none =>
      rw[hy,Option.map_none] at fy
      have e : relaxF l x y n = (l,false):=by simp only[relaxF,hx]
      simp (disch:=first|omega|(simp only[lenT];omega)) only[a4028,fx,fy,e,Option.getD_none,Option.isSome_none,evSt,↓eA,eB,evU,seval]
      exact ⟨rows,hm,rfl⟩
    | some v =>
      rw[hy,Option.map_some] at fy
      have e : relaxF l x y n = (l,false):=by simp only[relaxF,hx]
      simp (disch:=first|omega|(simp only[lenT];omega)) only[a4028,fx,fy,e,Option.getD_none,Option.isSome_none,Option.getD_some,Option.isSome_some,evSt,↓eA,eB,evU,seval]
      exact ⟨rows,hm,rfl⟩
  | some m =>
    rw[hx,Option.map_some] at fx
    have h1:=hb _ (look_mem hx)
    simp only at h1
    cases hy : look l y with
    | none =>
      rw[hy,Option.map_none] at fy
      have e : relaxF l x y n = (putL l y (m + n),true):=by simp only[relaxF,hx,reachF,hy]
      simp (disch:=first|omega|(simp only[lenT];omega)) only[a4028,fx,fy,e,wrap_i64,Option.getD_none,Option.isSome_none,Option.getD_some,Option.isSome_some,evSt,↓eA,eB,evU,seval]
      exact ⟨_,hm.put,rfl⟩
    | some v =>
      rw[hy,Option.map_some] at fy
      by_cases h : v ≤ m + n
      · have e : relaxF l x y n = (l,false):=by simp only[relaxF,hx,reachF,hy,h,if_true]
        simp (disch:=first|omega|(simp only[lenT];omega)) only[a4028,fx,fy,e,h,wrap_i64,Option.getD_none,Option.isSome_none,Option.getD_some,Option.isSome_some,evSt,↓eA,eB,evU,seval]
        exact ⟨rows,hm,rfl⟩
      · have e : relaxF l x y n = (putL l y (m + n),true):=by simp only[relaxF,hx,reachF,hy,h,if_false]
        simp (disch:=first|omega|(simp only[lenT];omega)) only[a4028,fx,fy,e,h,wrap_i64,decide_false,Option.getD_none,Option.isSome_none,Option.getD_some,Option.isSome_some,evSt,↓eA,eB,evU,seval]
        exact ⟨_,hm.put,rfl⟩
theorem miles_A (p : List Apt × List Dst) (a b : Txt) (S : Store) (hl : p.1.length ≤ 1048576) (hd : p.2.length ≤ 1000) :
    CallA Tryz.prog 92 [plV p,.str a,.str b] S fun r S'=>r = .tup [.int .i64 (milesF p a b).1,.int .i64 (milesF p a b).2] ∧ S' = S:=by
  refine CallA.withNeat Tryz.func92 c4019 fun hn=>?_
  refine CallA.fin Tryz.func92 c4019 (Nat.le_of_ble_eq_true rfl) fun σ hσ=>?_
  simp (disch:=first|omega|(simp only[lenT];omega)) only[a4019,plV,aSl,dSl,evSt,↓eA,eB,evU,seval]
  refine exD.intro (city_A p a S hl) ?_
  simp (disch:=first|omega|(simp only[lenT];omega)) only[aSl,dSl,evSt,↓eA,eB,evU,seval]
  refine (city_A p b S hl).then ?_
  unfold milesF
  generalize cityF p.1 a = f
  generalize cityF p.1 b = t
  by_cases hf : f = []
  · subst hf
    simp (disch:=first|omega|(simp only[lenT];omega)) only[eq_self,true_or,if_true,↓eA,eB,evU,seval]
    exact ⟨_,S,hn.self,.imm rfl,Nat.le_refl _,rfl,rfl⟩
  by_cases ht : t = []
  · subst ht
    simp (disch:=first|omega|(simp only[lenT];omega)) only[hf,eq_self,or_true,if_true,decide_false,↓eA,eB,evU,seval]
    exact ⟨_,S,hn.self,.imm rfl,Nat.le_refl _,rfl,rfl⟩
  have hnl:=names_len p.2 f
  have hnm:=names_mem (ds:=p.2) (f:=f)
  generalize hN : namesF p.2 f = N at hnl hnm
  simp (disch:=first|omega|(simp only[lenT];omega)) only[hf,ht,or_self,if_false,decide_false,putV,cells_mapv,ok_mapv,evSt,↓eA,eB,evU,seval]
  refine loopF (ι:=List (V × V) × Spots × Bool) (fun i=>[(3,.cptr [aSl p.1,dSl p.2]),(9,.str t),(10,.ptr (S.length + 1) 0 0 0),(11,.func 123 [] [.ptr (S.length + 1) 0 0 0]),(12,.bool i.2.2)]) (fun i=>S ++ ⟨0,some (.mp ⟨.one .str,i.1,.free⟩)⟩ :: ⟨0,some (.arr 159 1 [[.mapv S.length 0]])⟩ :: [])
    (fun i=>Head p.2 N (cloF p.2 f) i.2.1 i.2.2 ∧ MapL i.2.1 i.1) (fun i=>if i.2.2 then rank N i.2.1 + 1 else 0) (fun i hi=>by rw[hσ];simp) ([(.str f,.int .i64 0)],start f,true) ⟨⟨by rw[← hN];exact start_inv _ _,by simp only[if_true];exact cloF_clo _ _⟩,?_⟩ (.inl ⟨?_,?_⟩) ?_
  · refine ⟨fun q hq=>?_,fun c=>?_⟩
    · simp only[List.mem_singleton] at hq
      subst hq
      exact ⟨⟨f,rfl⟩,rfl,rfl⟩
    · simp only[findV,eqKV_str,start,look,decide_eq_true_eq]
      by_cases e : c = f
      · rw[if_pos e,if_pos e.symm];rfl
      · rw[if_neg e,if_neg (fun h=>e h.symm)];rfl
  · simp only[aSl,dSl,↓eA,eB,evU,seval]
  · rfl
  · rintro ⟨rows,l,more⟩ ⟨hh,hm⟩
    simp only at hh hm ⊢
    cases more with
    | false =>
      obtain ⟨hi,he⟩:=hh
      simp only[Bool.false_eq_true,if_false] at he
      rw[← he]
      have ft:=hm.2 t
      cases hk : look l t with
      | none =>
        rw[hk,Option.map_none] at ft
        simp (disch:=first|omega|(simp only[lenT];omega)) only[ft,Option.getD_none,Option.isSome_none,evSt,↓eA,eB,evU,seval]
        exact ⟨_,S,hn.fgt _,.imm rfl,Nat.le_refl _,rfl,rfl⟩
      | some v =>
        rw[hk,Option.map_some] at ft
        simp (disch:=first|omega|(simp only[lenT];omega)) only[ft,Option.getD_some,Option.isSome_some,evSt,↓eA,eB,evU,seval]
        exact ⟨_,S,hn.fgt _,.imm rfl,Nat.le_refl _,rfl,rfl⟩
    | true =>
      have hnx:=head_next hnm hh
      have hi:=hh.1
      simp (disch:=first|omega|(simp only[lenT];omega)) only[dSl,evSt,↓eA,eB,evU,seval]
      refine loopF (ι:=List (V × V) × Nat) (fun i=>[(3,.cptr [aSl p.1,dSl p.2]),(9,.str t),(10,.ptr (S.length + 1) 0 0 0),(11,.func 123 [] [.ptr (S.length + 1) 0 0 0]),(12,.bool ((p.2.take i.2).foldl stepF (l,false)).2),(37,dSl p.2),(38,.int .i64 p.2.length),(39,.int .i64 i.2)])
        (fun i=>S ++ ⟨0,some (.mp ⟨.one .str,i.1,.free⟩)⟩ :: ⟨0,some (.arr 159 1 [[.mapv S.length 0]])⟩ :: []) (fun i=>i.2 ≤ p.2.length ∧ MapL ((p.2.take i.2).foldl stepF (l,false)).1 i.1) (fun i=>p.2.length - i.2) (fun i hi=>by rw[hσ];simp) (rows,0) ⟨Nat.zero_le _,hm⟩ (.inl ⟨?_,?_⟩) ?_
      · simp only[aSl,dSl,List.foldl_nil,↓eA,eB,evU,seval]
      · rfl
      · rintro ⟨rows',k⟩ ⟨hk,hmk⟩
        simp only at hk hmk ⊢
        have hso:=round_sofar hi (p.2.take k) (take_mem hnm k) (l,false) ⟨hi,.inl ⟨rfl,rfl⟩⟩
        cases hdk : p.2[k]? with
        | none =>
          have hlt : ¬ ((k : Int) < p.2.length):=by rw[List.getElem?_eq_none_iff] at hdk;omega
          rw[List.take_of_length_le (List.getElem?_eq_none_iff.1 hdk)] at hmk ⊢
          simp (disch:=first|omega|(simp only[lenT];omega)) only[aSl,dSl,hlt,decide_false,evSt,↓eA,eB,evU,seval]
          exact ⟨(rows',roundF p.2 l),⟨hnx.1,hmk⟩,hnx.2,.inl ⟨⟨rfl,rfl,rfl,rfl,rfl,trivial⟩,rfl⟩⟩
        | some d =>
          have hlt':=(List.getElem?_eq_some_iff.1 hdk).1
          have hlt : (k : Int) < p.2.length:=by omega
          have hstep:=fold_take (s0:=(l,false)) hdk
          have hdm:=hnm d (List.mem_of_getElem? hdk)
          generalize hS : (p.2.take k).foldl stepF (l,false) = s at hso hstep hmk
          obtain ⟨l1,b1⟩:=s
          have hi1 : InvL N l1:=hso.1
          have fin : ∀ (rows2 : List (V × V)) (l2 : Spots) (b2 : Bool) (T : Store) (E : Env),stepF (l1,b1) d = (l2,b2) → MapL l2 rows2 → sub [(3,.cptr [aSl p.1,dSl p.2]),(9,.str t),(10,.ptr (S.length + 1) 0 0 0),(11,.func 123 [] [.ptr (S.length + 1) 0 0 0]),(12,.bool b2),(37,dSl p.2),(38,.int .i64 p.2.length),(39,.int .i64 (k + 1))] E →
              ∃ i' : List (V × V) × Nat,(i'.2 ≤ p.2.length ∧ MapL ((p.2.take i'.2).foldl stepF (l,false)).1 i'.1) ∧ p.2.length - i'.2 < p.2.length - k ∧ Back [(3,.cptr [aSl p.1,dSl p.2]),(9,.str t),(10,.ptr (S.length + 1) 0 0 0),(11,.func 123 [] [.ptr (S.length + 1) 0 0 0]),(12,.bool ((p.2.take i'.2).foldl stepF (l,false)).2),(37,dSl p.2),(38,.int .i64 p.2.length),(39,.int .i64 i'.2)]
                (S ++ ⟨0,some (.mp ⟨.one .str,i'.1,.free⟩)⟩ :: ⟨0,some (.arr 159 1 [[.mapv S.length 0]])⟩ :: []) E (S ++ ⟨0,some (.mp ⟨.one .str,rows2,.free⟩)⟩ :: ⟨0,some (.arr 159 1 [[.mapv S.length 0]])⟩ :: T):=by
            intro rows2 l2 b2 T E hr hm2 hE
            rw[hr] at hstep
            refine ⟨(rows2,k + 1),⟨by simp only;omega,by simp only[hstep];exact hm2⟩,by simp only;omega,?_⟩
            simp only[hstep]
            refine back_under ?_ hE (by simp [V.under,aSl,dSl,V.allUnder])
            exact hn.fgtL (L:=_ :: _ :: T) (L1:=[_,_]) ⟨rfl,objF_map rfl rfl hm2.1 (fun a=>rfl),rfl,⟨_,rfl,.under (by simp [V.allUnder,V.under])⟩,by cases T<;>trivial⟩
          simp (disch:=first|omega|(simp only[lenT];omega)) only[aSl,dSl,dstR,hdk,hlt,evSt,↓eA,eB,evU,seval]
          refine (usable_A d _).then ?_
          cases hu : usableF d with
          | false =>
            simp (disch:=first|omega|(simp only[lenT];omega)) only[aSl,dSl,wrap_i64,evSt,↓eA,eB,evU,seval]
            exact fin rows' l1 b1 _ _ (by simp only[stepF,hu,Bool.false_eq_true,if_false]) hmk ⟨rfl,rfl,rfl,rfl,rfl,rfl,rfl,rfl,trivial⟩
          | true =>
            have hmi : 1 ≤ d.mi ∧ d.mi ≤ 20000:=by simpa [usableF] using hu
            have hr2:=(relax_less (x:=d.fr) hi1 hdm.2 hmi.1 hmi.2).1
            simp (disch:=first|omega|(simp only[lenT];omega)) only[aSl,dSl,wrap_i64,evSt,↓eA,eB,evU,seval]
            refine (relax_A l1 d.fr d.to d.mi S _ rows' hmk (fun q hq=>⟨(hi1.1 q hq).1,by have:=(hi1.1 q hq).2;omega⟩) hmi).mono ?_
            rintro _ _ ⟨rfl,rows2,hm2,rfl⟩
            generalize hA : relaxF l1 d.fr d.to d.mi = A at hr2 hm2
            obtain ⟨l2,b2⟩:=A
            simp (disch:=first|omega|(simp only[lenT];omega)) only[aSl,dSl,wrap_i64,evSt,↓eA,eB,evU,seval]
            refine (relax_A l2 d.to d.fr d.mi S _ rows2 hm2 (fun q hq=>⟨(hr2.1 q hq).1,by have:=(hr2.1 q hq).2;omega⟩) hmi).mono ?_
            rintro _ _ ⟨rfl,rows3,hm3,rfl⟩
            generalize hB : relaxF l2 d.to d.fr d.mi = B at hm3
            obtain ⟨l3,b3⟩:=B
            have hst : stepF (l1,b1) d = (l3,b1 || b2 || b3):=by simp only[stepF,hu,hA,hB,if_true]
            cases b1<;>cases b2<;>cases b3
            all_goals
              simp (disch:=first|omega|(simp only[lenT];omega)) only[aSl,dSl,wrap_i64,evSt,↓eA,eB,evU,seval]
              exact fin rows3 l3 _ _ _ hst hm3 ⟨rfl,rfl,rfl,rfl,rfl,rfl,rfl,rfl,trivial⟩
end Go.Proofs.YtanmnoipikdplaaGreat.Ml
/- Ways;the examples;the laws on levels and ways. -/
namespace Go.Proofs.YtanmnoipikdplaaGreat.Ml
open Go Go.AL
set_option linter.unusedSectionVars false
variable [Go.AL.Mode]
set_option linter.unusedSimpArgs false
set_option linter.unusedVariables false
theorem closeF_inv {N : List Txt} {ds : List Dst} (hd : ∀ d ∈ ds,d.fr ∈ N ∧ d.to ∈ N) : ∀ (n : Nat) (l : Spots),InvL N l → InvL N (closeF ds n l)
  | 0,l,hi=>hi
  | n + 1,l,hi=>by
    have hs:=round_sofar hi ds hd (l,false) ⟨hi,.inl ⟨rfl,rfl⟩⟩
    rw[closeF]
    split
    · exact closeF_inv hd n _ hs.1
    · exact hs.1
theorem miles_bound (p : List Apt × List Dst) (a b : Txt) (hd : p.2.length ≤ 1000) : 0 ≤ (milesF p a b).1 ∧ (milesF p a b).1 ≤ 50000000:=by
  unfold milesF
  split
  · simp
  · have hi:=closeF_inv (names_mem (ds:=p.2) (f:=cityF p.1 a)) (rank (namesF p.2 (cityF p.1 a)) (start (cityF p.1 a)) + 1) _ (start_inv p.2 (cityF p.1 a))
    have hn:=names_len p.2 (cityF p.1 a)
    cases h : look (cloF p.2 (cityF p.1 a)) (cityF p.1 b) with
    | none=>simp
    | some v =>
      have:=hi.1 _ (look_mem h)
      simp only at this ⊢
      omega
def wayGo (p : List Apt × List Dst) (n : Int) : List Txt → Int × Int
  | []=>(n,0)
  | [_]=>(n,0)
  | a :: b :: r=>if (milesF p a b).2 = 0 then wayGo p (n + (milesF p a b).1) (b :: r) else (0,(milesF p a b).2)
def sSl (l : List Txt) : V:=.sl 1 (l.map fun s=>[.str s])
theorem drop_cons0 {α : Type} {l : List α} {k : Nat} {x : α} (h : l[k]? = some x) : l.drop k = x :: l.drop (k + 1):=by
  obtain ⟨hlt,rfl⟩:=List.getElem?_eq_some_iff.1 h
  exact List.drop_eq_getElem_cons hlt
theorem way_end {p : List Apt × List Dst} {n : Int} {l : List Txt} {k : Nat} (h : ¬ k + 1 < l.length) : wayGo p n (l.drop k) = (n,0):=by
  have : (l.drop k).length ≤ 1:=by rw[List.length_drop];omega
  match l.drop k,this with
  | [],_=>rfl
  | [_],_=>rfl
theorem way_step {p : List Apt × List Dst} {n : Int} {l : List Txt} {k : Nat} {a b : Txt} (ha : l[k]? = some a) (hb : l[k + 1]? = some b) : wayGo p n (l.drop k) = if (milesF p a b).2 = 0 then wayGo p (n + (milesF p a b).1) (l.drop (k + 1)) else (0,(milesF p a b).2):=by
  rw[drop_cons0 ha,drop_cons0 hb,wayGo]
theorem way_A (p : List Apt × List Dst) (cs : List Txt) (S : Store) (hl : p.1.length ≤ 1048576) (hd : p.2.length ≤ 1000) (hc : cs.length ≤ 1048576) :
    CallA Tryz.prog 67 [plV p,sSl cs] S fun r S'=>r = .tup [.int .i64 (wayGo p 0 cs).1,.int .i64 (wayGo p 0 cs).2] ∧ S' = S:=by
  refine CallA.keep Tryz.func67 c4017 (Nat.le_of_ble_eq_true rfl) fun σ hσ=>?_
  simp (disch:=first|omega|(simp only[lenT];omega)) only[a4017,plV,aSl,dSl,sSl,↓eA,eB,evU,seval]
  refine loopA (ι:=Nat × Int) (fun i=>[(1,sSl cs),(2,.cptr [aSl p.1,dSl p.2]),(6,.int .i64 i.2),(7,.int .i64 (i.1 + 1))]) (fun _=>S) (fun i=>wayGo p i.2 (cs.drop i.1) = wayGo p 0 cs ∧ 0 ≤ i.2 ∧ i.2 ≤ 50000000 * i.1 ∧ i.1 ≤ cs.length) (fun i=>cs.length - i.1) (0,0) ⟨rfl,Int.le_refl _,by simp,Nat.zero_le _⟩ ?_ rfl ?_
  · simp only[sSl,aSl,dSl,Int.reduceAdd,↓eA,eB,evU,seval]
    try rfl
  · rintro ⟨k,n⟩ ⟨hinv,hn1,hn2,hkl⟩
    simp only at hinv hn1 hn2 hkl ⊢
    by_cases hlt0 : k + 1 < cs.length
    · have hlt : (k : Int) + 1 < cs.length:=by omega
      have ha : cs[k]? = some cs[k]:=List.getElem?_eq_getElem (by omega)
      have hb : cs[k + 1]? = some cs[k + 1]:=List.getElem?_eq_getElem hlt0
      generalize cs[k] = a at ha
      generalize cs[k + 1] = b at hb
      rw[way_step ha hb] at hinv
      have hcast : (k : Int) + 1 = ((k + 1 : Nat) : Int):=by omega
      have hcast2 : ((k + 1 : Nat) : Int) - 1 = (k : Int):=by omega
      have hltc : ((k + 1 : Nat) : Int) < cs.length:=by omega
      have hmb:=miles_bound p a b hd
      simp (disch:=first|omega|(simp only[lenT];omega)) only[sSl,aSl,dSl,hcast,hcast2,hltc,ha,hb,wrap_i64,↓eA,eB,evU,seval]
      refine (miles_A p a b S hl hd).then ?_
      by_cases he : (milesF p a b).2 = 0
      · rw[if_pos he] at hinv
        simp (disch:=first|omega|(simp only[lenT];omega)) only[sSl,aSl,dSl,he,wrap_i64,decide_false,↓eA,eB,evU,seval]
        refine ⟨(k + 1,n + (milesF p a b).1),⟨hinv,by simp only;omega,by simp only;omega,by simp only;omega⟩,by simp only;omega,?_⟩
        simp
      · rw[if_neg he] at hinv
        simp (disch:=first|omega|(simp only[lenT];omega)) only[sSl,aSl,dSl,he,← hinv,wrap_i64,decide_false,↓eA,eB,evU,seval]
    · have hlt : ¬ (k : Int) + 1 < cs.length:=by omega
      rw[way_end hlt0] at hinv
      simp (disch:=first|omega|(simp only[lenT];omega)) only[sSl,aSl,dSl,hlt,← hinv,wrap_i64,decide_false,↓eA,eB,evU,seval]
theorem refway_A (p : List Apt × List Dst) (cs : List Txt) (S : Store) (hl : p.1.length ≤ 1048576) (hd : p.2.length ≤ 1000) (hc : cs.length ≤ 1048576) :
    CallA Tryz.prog 70 [plV p,sSl cs] S fun r S'=>r = .tup [.int .i64 (wayGo p 0 cs).1,.int .i64 (wayGo p 0 cs).2] ∧ S' = S:=by
  refine CallA.keep Tryz.func70 c4018 (Nat.le_of_ble_eq_true rfl) fun σ hσ=>?_
  simp (disch:=first|omega|(simp only[lenT];omega)) only[a4018,plV,aSl,dSl,sSl,↓eA,eB,evU,seval]
  refine loopA (ι:=Nat × Int) (fun i=>[(1,sSl cs),(2,.cptr [aSl p.1,dSl p.2]),(6,.int .i64 i.2),(7,.int .i64 (i.1))]) (fun _=>S) (fun i=>wayGo p i.2 (cs.drop i.1) = wayGo p 0 cs ∧ 0 ≤ i.2 ∧ i.2 ≤ 50000000 * i.1 ∧ i.1 ≤ cs.length) (fun i=>cs.length - i.1) (0,0) ⟨rfl,Int.le_refl _,by simp,Nat.zero_le _⟩ ?_ rfl ?_
  · simp only[sSl,aSl,dSl,Int.reduceAdd,↓eA,eB,evU,seval]
    try rfl
  · rintro ⟨k,n⟩ ⟨hinv,hn1,hn2,hkl⟩
    simp only at hinv hn1 hn2 hkl ⊢
    by_cases hlt0 : k + 1 < cs.length
    · have hlt : (k : Int) + 1 < cs.length:=by omega
      have ha : cs[k]? = some cs[k]:=List.getElem?_eq_getElem (by omega)
      have hb : cs[k + 1]? = some cs[k + 1]:=List.getElem?_eq_getElem hlt0
      generalize cs[k] = a at ha
      generalize cs[k + 1] = b at hb
      rw[way_step ha hb] at hinv
      have hcast : (k : Int) + 1 = ((k + 1 : Nat) : Int):=by omega
      have hcast2 : ((k + 1 : Nat) : Int) - 1 = (k : Int):=by omega
      have hltc : ((k + 1 : Nat) : Int) < cs.length:=by omega
      have hmb:=miles_bound p a b hd
      simp (disch:=first|omega|(simp only[lenT];omega)) only[sSl,aSl,dSl,hcast,hcast2,hltc,ha,hb,wrap_i64,↓eA,eB,evU,seval]
      refine (refmiles_A p a b S hl hd).then ?_
      by_cases he : (milesF p a b).2 = 0
      · rw[if_pos he] at hinv
        simp (disch:=first|omega|(simp only[lenT];omega)) only[sSl,aSl,dSl,he,wrap_i64,decide_false,↓eA,eB,evU,seval]
        refine ⟨(k + 1,n + (milesF p a b).1),⟨hinv,by simp only;omega,by simp only;omega,by simp only;omega⟩,by simp only;omega,?_⟩
        simp
      · rw[if_neg he] at hinv
        simp (disch:=first|omega|(simp only[lenT];omega)) only[sSl,aSl,dSl,he,← hinv,wrap_i64,decide_false,↓eA,eB,evU,seval]
    · have hlt : ¬ (k : Int) + 1 < cs.length:=by omega
      rw[way_end hlt0] at hinv
      simp (disch:=first|omega|(simp only[lenT];omega)) only[sSl,aSl,dSl,hlt,← hinv,wrap_i64,decide_false,↓eA,eB,evU,seval]
def ofF (p : List Apt × List Dst) (cs : List Txt) (m : Int) : Int × Int:=if (wayGo p 0 cs).2 = 0 then levF (wayGo p 0 cs).1 m else (0,(wayGo p 0 cs).2)
theorem of_A (p : List Apt × List Dst) (cs : List Txt) (m : Int) (S : Store) (hl : p.1.length ≤ 1048576) (hd : p.2.length ≤ 1000) (hc : cs.length ≤ 1048576) :
    CallA Tryz.prog 36 [plV p,sSl cs,.int .i64 m] S fun r S'=>r = .tup [.int .i64 (ofF p cs m).1,.int .i64 (ofF p cs m).2] ∧ S' = S:=by
  refine CallA.keep Tryz.func36 c4011 (Nat.le_of_ble_eq_true rfl) fun σ hσ=>?_
  simp (disch:=first|omega|(simp only[lenT];omega)) only[a4011,plV,aSl,dSl,↓eA,eB,evU,seval]
  refine (way_A p cs S hl hd hc).then ?_
  unfold ofF
  by_cases he : (wayGo p 0 cs).2 = 0
  · simp (disch:=first|omega|(simp only[lenT];omega)) only[he,if_true,decide_false,↓eA,eB,evU,seval]
    refine (level_A _ _ S).then ?_
    simp (disch:=first|omega|(simp only[lenT];omega)) only[↓eA,eB,evU,seval]
  · simp (disch:=first|omega|(simp only[lenT];omega)) only[he,if_false,decide_false,↓eA,eB,evU,seval]
theorem refof_A (p : List Apt × List Dst) (cs : List Txt) (m : Int) (S : Store) (hl : p.1.length ≤ 1048576) (hd : p.2.length ≤ 1000) (hc : cs.length ≤ 1048576) :
    CallA Tryz.prog 41 [plV p,sSl cs,.int .i64 m] S fun r S'=>r = .tup [.int .i64 (ofF p cs m).1,.int .i64 (ofF p cs m).2] ∧ S' = S:=by
  refine CallA.keep Tryz.func41 c4012 (Nat.le_of_ble_eq_true rfl) fun σ hσ=>?_
  simp (disch:=first|omega|(simp only[lenT];omega)) only[a4012,plV,aSl,dSl,↓eA,eB,evU,seval]
  refine (refway_A p cs S hl hd hc).then ?_
  unfold ofF
  by_cases he : (wayGo p 0 cs).2 = 0
  · simp (disch:=first|omega|(simp only[lenT];omega)) only[he,if_true,decide_false,↓eA,eB,evU,seval]
    refine (reflevel_A _ _ S).then ?_
    simp (disch:=first|omega|(simp only[lenT];omega)) only[↓eA,eB,evU,seval]
  · simp (disch:=first|omega|(simp only[lenT];omega)) only[he,if_false,decide_false,↓eA,eB,evU,seval]
end Go.Proofs.YtanmnoipikdplaaGreat.Ml
