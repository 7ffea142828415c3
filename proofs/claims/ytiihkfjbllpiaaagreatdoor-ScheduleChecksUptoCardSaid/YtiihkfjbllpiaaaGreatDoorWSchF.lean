/- The reference's look at places, whole. -/
import Derived.Test.YtiihkfjbllpiaaaGreatDoorWSchE
import Derived.Test.YtiihkfjbllpiaaaGreatDoorWSchQ
namespace Go.Proofs.YtiihkfjbllpiaaaGreatDoor
open Go Go.AL
set_option linter.unusedSectionVars false
variable [Go.AL.Mode] [Go.AL.LooseM]
set_option linter.unusedSimpArgs false
set_option linter.unusedVariables false
def townF (p : Pls) (c : Txt) : Option Apt:=p.1.find? fun a=>decide (a.city = c)
theorem findT_at {l : List Apt} {q : Apt → Bool} {k : Nat} {a : Apt} (h : l.find? q = (l.drop k).find? q) (ha : l[k]? = some a) (hq : q a = true) : l.find? q = some a:=find_hit h ha hq
theorem rtown_A (p : Pls) (c : Txt) (S : Store) (hl : p.1.length ≤ 2000000) : CallA Tryz.prog 129 [plV p,.str c] S fun r S'=>r = findR (townF p c) ∧ S' = S:=by
  refine CallA.withNeat Tryz.func129 c629 fun hn=>?_
  refine CallA.fin Tryz.func129 c629 (Nat.le_of_ble_eq_true rfl) fun σ hσ=>?_
  simp (disch:=first|omega|(simp only[lenT];omega)) only[a629,plV,List.length_map,List.take_succ_cons,List.take_zero,evSt,↓evPre,↓evPreW,evPost,evPostW,← List.map_take,← List.map_drop,↓reduceIte,reduceCtorEq,Nat.reduceEqDiff,forall_const,implies_true,Nat.reduceAdd,Nat.reduceSub,Nat.reduceMul,Nat.reduceLT,Nat.reduceLeDiff,Int.reduceToNat,Int.reduceAdd,Int.reduceSub,Int.reduceNeg,Int.reduceMul,Int.reduceLT,Int.reduceLE,Int.reduceEq]
  refine loopF (ι:=Nat) (fun k=>[(1,.str c),(2,.cptr [.sl 5 (p.1.map aptR),.sl 3 (p.2.map dstR)]),(4,.ptr S.length 0 0 0),(6,.int .i64 (k : Nat))]) (fun _=>S ++ [⟨0,some (.arr 134 5 [noApt])⟩]) (fun k=>k ≤ p.1.length ∧ p.1.find? (fun a=>decide (a.city = c)) = (p.1.drop k).find? (fun a=>decide (a.city = c))) (fun k=>p.1.length - k) (fun i hi=>by rw[hσ];simp) 0 ⟨Nat.zero_le _,rfl⟩ (.inl ⟨?_,rfl⟩) ?_
  · simp only[↓evPre,↓evPreW,evPost,evPostW,← List.map_take,← List.map_drop,↓reduceIte,reduceCtorEq,Nat.reduceEqDiff,forall_const,implies_true,Nat.reduceAdd,Nat.reduceSub,Nat.reduceMul,Nat.reduceLT,Nat.reduceLeDiff,Int.reduceToNat,Int.reduceAdd,Int.reduceSub,Int.reduceNeg,Int.reduceMul,Int.reduceLT,Int.reduceLE,Int.reduceEq]
  · rintro k ⟨hk,hinv⟩
    cases hc : p.1[k]? with
    | none =>
      have hlt : ¬ ((k : Int) < p.1.length):=by rw[List.getElem?_eq_none_iff] at hc;omega
      have hf : townF p c = none:=find_end hinv hc
      simp (disch:=first|omega|(simp only[lenT];omega)) only[hf,findR,noApt,List.length_map,hlt,decide_false,List.take_succ_cons,List.take_zero,evSt,↓evPre,↓evPreW,evPost,evPostW,← List.map_take,← List.map_drop,↓reduceIte,reduceCtorEq,Nat.reduceEqDiff,forall_const,implies_true,Nat.reduceAdd,Nat.reduceSub,Nat.reduceMul,Nat.reduceLT,Nat.reduceLeDiff,Int.reduceToNat,Int.reduceAdd,Int.reduceSub,Int.reduceNeg,Int.reduceMul,Int.reduceLT,Int.reduceLE,Int.reduceEq]
      exact ⟨_,S,hn.fgt _,.imm rfl,Nat.le_refl _,rfl,rfl⟩
    | some a =>
      have hlt':=(List.getElem?_eq_some_iff.1 hc).1
      have hlt : (k : Int) < p.1.length:=by omega
      by_cases h : a.city = c
      · have he : decide (a.city = c) = true:=by simp [h]
        have hf : townF p c = some a:=findT_at hinv hc he
        simp (disch:=first|omega|(simp only[lenT];omega)) only[hf,findR,aptR,noApt,List.length_map,hc,hlt,he,decide_true,List.getElem?_map,Option.map_some,List.take_succ_cons,List.take_zero,evSt,↓evPre,↓evPreW,evPost,evPostW,← List.map_take,← List.map_drop,↓reduceIte,reduceCtorEq,Nat.reduceEqDiff,forall_const,implies_true,Nat.reduceAdd,Nat.reduceSub,Nat.reduceMul,Nat.reduceLT,Nat.reduceLeDiff,Int.reduceToNat,Int.reduceAdd,Int.reduceSub,Int.reduceNeg,Int.reduceMul,Int.reduceLT,Int.reduceLE,Int.reduceEq]
        exact ⟨_,S,hn.fgt _,.imm rfl,Nat.le_refl _,rfl,rfl⟩
      · simp (disch:=first|omega|(simp only[lenT];omega)) only[aptR,noApt,List.length_map,wrap_i64,hc,hlt,h,decide_true,decide_false,List.getElem?_map,Option.map_some,List.take_succ_cons,List.take_zero,evSt,↓evPre,↓evPreW,evPost,evPostW,← List.map_take,← List.map_drop,↓reduceIte,reduceCtorEq,Nat.reduceEqDiff,forall_const,implies_true,Nat.reduceAdd,Nat.reduceSub,Nat.reduceMul,Nat.reduceLT,Nat.reduceLeDiff,Int.reduceToNat,Int.reduceAdd,Int.reduceSub,Int.reduceNeg,Int.reduceMul,Int.reduceLT,Int.reduceLE,Int.reduceEq]
        exact ⟨k + 1,⟨by omega,find_next hinv hc (by simp [h])⟩,by omega,.inl ⟨by simp only[↓evPre,↓evPreW,evPost,evPostW,← List.map_take,← List.map_drop,↓reduceIte,reduceCtorEq,Nat.reduceEqDiff,forall_const,implies_true,Nat.reduceAdd,Nat.reduceSub,Nat.reduceMul,Nat.reduceLT,Nat.reduceLeDiff,Int.reduceToNat,Int.reduceAdd,Int.reduceSub,Int.reduceNeg,Int.reduceMul,Int.reduceLT,Int.reduceLE,Int.reduceEq];rfl,rfl⟩⟩
theorem apt_form (o : Option Apt) : ∃ c1 c2 c3 off sv,findR o = .tup [.agg [.str c1,.str c2,.str c3,.int .i64 off,sv],.bool o.isSome] ∧ sv.isImm = true ∧ sv.cellOk = true:=by
  cases o with
  | none=>exact ⟨[],[],[],0,.nilSl,rfl,rfl,rfl⟩
  | some a=>exact ⟨a.code,a.city,a.cty,a.off,.sl 2 (a.sh.map shR),rfl,rfl,rfl⟩
def useF (d : Dst) : Bool:=decide (1 ≤ d.mi) && decide (d.mi ≤ 20000)
theorem ruse_A (d : Dst) (S : Store) : CallA Tryz.prog 130 [.agg (dstR d)] S fun r S'=>r = .bool (useF d) ∧ S' = S:=by
  refine CallA.keep Tryz.func130 c630 (Nat.le_of_ble_eq_true rfl) fun σ hσ=>?_
  unfold useF
  cases h : decide (1 ≤ d.mi)<;>simp (disch:=first|omega|(simp only[lenT];omega)) only[a630,dstR,h,Bool.true_and,Bool.false_and,List.take_succ_cons,List.take_zero,evSt,↓evPre,↓evPreW,evPost,evPostW,← List.map_take,← List.map_drop,↓reduceIte,reduceCtorEq,Nat.reduceEqDiff,forall_const,implies_true,Nat.reduceAdd,Nat.reduceSub,Nat.reduceMul,Nat.reduceLT,Nat.reduceLeDiff,Int.reduceToNat,Int.reduceAdd,Int.reduceSub,Int.reduceNeg,Int.reduceMul,Int.reduceLT,Int.reduceLE,Int.reduceEq]
theorem fin_es {S L : Store} {x y z : AL.Obj} {v n : Nat} {es : List Int} (hn : n = es.length) : Frz (S ++ x :: y :: z :: ⟨v,some (.arr 34 1 (es.map inR))⟩ :: L) S (.msl (S.length + 3) v 0 n) (.sl 1 (es.map inR)) :=
  .sl (t:=34) (by omega) (by rw[ob_app,ob_cons,ob_cons,ob_cons,ob_head]) (by simp [hn]) (inR_imm es)
set_option maxHeartbeats 8000000 in
set_option maxRecDepth 10000 in
theorem rdst_A (p : Pls) (hp : p.1.length ≤ 2000000) (hp2 : p.2.length ≤ 2000000) (i : Nat) (d : Dst) (hd : p.2[i]? = some d) (S : Store) : CallA Tryz.prog 86 [plV p,.int .i64 (i : Nat)] S fun r S'=>∃ es : List Int,r = .sl 1 (es.map inR) ∧ es.length ≤ 4 ∧ S' = S:=by
  refine CallA.withNeat Tryz.func86 c586 fun hn=>?_
  refine CallA.fin Tryz.func86 c586 (Nat.le_of_ble_eq_true rfl) fun σ hσ=>?_
  have hil:=(List.getElem?_eq_some_iff.1 hd).1
  obtain ⟨c1,c2,c3,o1,v1,e1,i1,k1⟩:=apt_form (townF p d.fr)
  obtain ⟨c4,c5,c6,o2,v2,e2,i2,k2⟩:=apt_form (townF p d.to)
  have f1:=fun S=>rtown_A p d.fr S hp
  have f2:=fun S=>rtown_A p d.to S hp
  have fu:=fun S=>ruse_A d S
  simp only[plV,e1] at f1
  simp only[plV,e2] at f2
  simp only[dstR] at fu
  have r1 : (1 ≤ roomA) = True:=by simp [roomA]
  have r2 : (2 ≤ roomA) = True:=by simp [roomA]
  have r3 : (3 ≤ roomA) = True:=by simp [roomA]
  simp (disch:=first|omega|(simp only[lenT];omega)) only[a586,plV,hd,dstR,List.length_map,List.getElem?_map,Option.map_some,List.take_succ_cons,List.take_zero,evSt,↓evPre,↓evPreW,evPost,evPostW,← List.map_take,← List.map_drop,↓reduceIte,reduceCtorEq,Nat.reduceEqDiff,forall_const,implies_true,Nat.reduceAdd,Nat.reduceSub,Nat.reduceMul,Nat.reduceLT,Nat.reduceLeDiff,Int.reduceToNat,Int.reduceAdd,Int.reduceSub,Int.reduceNeg,Int.reduceMul,Int.reduceLT,Int.reduceLE,Int.reduceEq]
  refine (f1 _).then ?_
  simp (disch:=first|omega|(simp only[lenT];omega)) only[i1,k1,evSt,↓evPre,↓evPreW,evPost,evPostW,← List.map_take,← List.map_drop,↓reduceIte,reduceCtorEq,Nat.reduceEqDiff,forall_const,implies_true,Nat.reduceAdd,Nat.reduceSub,Nat.reduceMul,Nat.reduceLT,Nat.reduceLeDiff,Int.reduceToNat,Int.reduceAdd,Int.reduceSub,Int.reduceNeg,Int.reduceMul,Int.reduceLT,Int.reduceLE,Int.reduceEq]
  refine (f2 _).then ?_
  apply share_ix (P:=Tryz.prog) (N:=99) (σ:=σ) (ι:=Bool) (fun _=>True) (fun b=>[(2,.cptr [.sl 5 (p.1.map aptR),.sl 3 (p.2.map dstR)]),(1,.int .i64 (i : Nat)),(5,if b then .msl (S.length + 3) 0 0 1 else .nilSl),(6,.ptr S.length 0 0 0),(11,.bool false),(12,.int .i64 0)])
    (fun b=>S ++ ⟨0,some (.arr 155 3 [dstR d])⟩ :: ⟨0,some (.arr 134 5 [[.str c1,.str c2,.str c3,.int .i64 o1,v1]])⟩ :: ⟨0,some (.arr 134 5 [[.str c4,.str c5,.str c6,.int .i64 o2,v2]])⟩ :: if b then [⟨0,some (.arr 34 1 [[.int .i64 14]])⟩] else [])
  · intro key
    have kt:=key true trivial
    have kf:=key false trivial
    simp only[if_true,Bool.false_eq_true,if_false] at kt kf
    generalize (townF p d.fr).isSome = b1
    generalize (townF p d.to).isSome = b2
    cases b1<;>cases b2<;>simp (disch:=first|omega|(simp only[lenT];omega)) only[r1,true_and,i1,k1,i2,k2,evSt,↓evPre,↓evPreW,evPost,evPostW,← List.map_take,← List.map_drop,↓reduceIte,reduceCtorEq,Nat.reduceEqDiff,forall_const,implies_true,Nat.reduceAdd,Nat.reduceSub,Nat.reduceMul,Nat.reduceLT,Nat.reduceLeDiff,Int.reduceToNat,Int.reduceAdd,Int.reduceSub,Int.reduceNeg,Int.reduceMul,Int.reduceLT,Int.reduceLE,Int.reduceEq]
    all_goals first
      | exact kt.sub (by simp only[↓evPre,↓evPreW,evPost,evPostW,← List.map_take,← List.map_drop,↓reduceIte,reduceCtorEq,Nat.reduceEqDiff,forall_const,implies_true,Nat.reduceAdd,Nat.reduceSub,Nat.reduceMul,Nat.reduceLT,Nat.reduceLeDiff,Int.reduceToNat,Int.reduceAdd,Int.reduceSub,Int.reduceNeg,Int.reduceMul,Int.reduceLT,Int.reduceLE,Int.reduceEq])
      | exact kf.sub (by simp only[↓evPre,↓evPreW,evPost,evPostW,← List.map_take,← List.map_drop,↓reduceIte,reduceCtorEq,Nat.reduceEqDiff,forall_const,implies_true,Nat.reduceAdd,Nat.reduceSub,Nat.reduceMul,Nat.reduceLT,Nat.reduceLeDiff,Int.reduceToNat,Int.reduceAdd,Int.reduceSub,Int.reduceNeg,Int.reduceMul,Int.reduceLT,Int.reduceLE,Int.reduceEq])
  · intro b _
    have him6 : ∀ r ∈ [dstR d],r.length = 3 ∧ V.allImm r = true:=fun r hr=>by rw[List.mem_singleton] at hr;subst hr;exact ⟨rfl,rfl⟩
    have him7 : ∀ r ∈ [[.str c1,.str c2,.str c3,.int .i64 o1,v1]],r.length = 5 ∧ V.allImm r = true:=fun r hr=>by rw[List.mem_singleton] at hr;subst hr;exact ⟨rfl,by simp [V.allImm,V.isImm,i1]⟩
    have him9 : ∀ r ∈ [[.str c4,.str c5,.str c6,.int .i64 o2,v2]],r.length = 5 ∧ V.allImm r = true:=fun r hr=>by rw[List.mem_singleton] at hr;subst hr;exact ⟨rfl,by simp [V.allImm,V.isImm,i2]⟩
    have him5 : ∀ r ∈ [[V.int .i64 14]],r.length = 1 ∧ V.allImm r = true:=fun r hr=>by rw[List.mem_singleton] at hr;subst hr;exact ⟨rfl,rfl⟩
    cases b
    case' false =>
      simp only[Bool.false_eq_true,if_false]
      refine loopF (ι:=Nat × Bool) (fun k=>[(2,.cptr [.sl 5 (p.1.map aptR),.sl 3 (p.2.map dstR)]),(1,.int .i64 (i : Nat)),(5,.nilSl),(6,.ptr S.length 0 0 0),(11,.bool k.2),(12,.int .i64 (k.1 : Nat))]) (fun _=>S ++ [⟨0,some (.arr 155 3 [dstR d])⟩,⟨0,some (.arr 134 5 [[.str c1,.str c2,.str c3,.int .i64 o1,v1]])⟩,⟨0,some (.arr 134 5 [[.str c4,.str c5,.str c6,.int .i64 o2,v2]])⟩]) (fun k=>k.1 ≤ i) (fun k=>i - k.1) (fun i hi=>by rw[hσ];simp) (0,false) (Nat.zero_le _) (.inl ⟨?_,rfl⟩) ?_
    case' true =>
      simp only[if_true]
      refine loopF (ι:=Nat × Bool) (fun k=>[(2,.cptr [.sl 5 (p.1.map aptR),.sl 3 (p.2.map dstR)]),(1,.int .i64 (i : Nat)),(5,.msl (S.length + 3) 0 0 1),(6,.ptr S.length 0 0 0),(11,.bool k.2),(12,.int .i64 (k.1 : Nat))]) (fun _=>S ++ [⟨0,some (.arr 155 3 [dstR d])⟩,⟨0,some (.arr 134 5 [[.str c1,.str c2,.str c3,.int .i64 o1,v1]])⟩,⟨0,some (.arr 134 5 [[.str c4,.str c5,.str c6,.int .i64 o2,v2]])⟩,⟨0,some (.arr 34 1 [[.int .i64 14]])⟩]) (fun k=>k.1 ≤ i) (fun k=>i - k.1) (fun i hi=>by rw[hσ];simp) (0,false) (Nat.zero_le _) (.inl ⟨?_,rfl⟩) ?_
    all_goals try (simp only[↓evPre,↓evPreW,evPost,evPostW,← List.map_take,← List.map_drop,↓reduceIte,reduceCtorEq,Nat.reduceEqDiff,forall_const,implies_true,Nat.reduceAdd,Nat.reduceSub,Nat.reduceMul,Nat.reduceLT,Nat.reduceLeDiff,Int.reduceToNat,Int.reduceAdd,Int.reduceSub,Int.reduceNeg,Int.reduceMul,Int.reduceLT,Int.reduceLE,Int.reduceEq];done)
    all_goals try (simp only[↓evPre,↓evPreW,evPost,evPostW,← List.map_take,← List.map_drop,↓reduceIte,reduceCtorEq,Nat.reduceEqDiff,forall_const,implies_true,Nat.reduceAdd,Nat.reduceSub,Nat.reduceMul,Nat.reduceLT,Nat.reduceLeDiff,Int.reduceToNat,Int.reduceAdd,Int.reduceSub,Int.reduceNeg,Int.reduceMul,Int.reduceLT,Int.reduceLE,Int.reduceEq];rfl)
    all_goals
      rintro ⟨k,tw⟩ hk
      simp only at hk ⊢
      by_cases hki : k < i
      · have hlt : (k : Int) < i:=by omega
        have hk1 : (k : Int) + 1 = ((k + 1 : Nat) : Int):=by omega
        obtain ⟨q,hq⟩ : ∃ q,p.2[k]? = some q:=⟨_,List.getElem?_eq_getElem (by omega)⟩
        obtain ⟨tw0,ht0⟩ : ∃ t,t = tw:=⟨_,rfl⟩
        cases tw<;>cases d1 : decide (q.fr = d.fr)<;>cases d2 : decide (q.to = d.to)<;>cases d3 : decide (q.fr = d.to)<;>cases d4 : decide (q.to = d.fr)<;>simp (disch:=first|omega|(simp only[lenT];omega)) only[dT hlt,hq,d1,d2,d3,d4,dstR,wrap_i64,hk1,List.length_map,List.getElem?_map,Option.map_some,List.take_succ_cons,List.take_zero,evSt,↓evPre,↓evPreW,evPost,evPostW,← List.map_take,← List.map_drop,↓reduceIte,reduceCtorEq,Nat.reduceEqDiff,forall_const,implies_true,Nat.reduceAdd,Nat.reduceSub,Nat.reduceMul,Nat.reduceLT,Nat.reduceLeDiff,Int.reduceToNat,Int.reduceAdd,Int.reduceSub,Int.reduceNeg,Int.reduceMul,Int.reduceLT,Int.reduceLE,Int.reduceEq]
        all_goals
          refine ⟨(k + 1,tw0 || (decide (q.fr = d.fr) && decide (q.to = d.to)) || (decide (q.fr = d.to) && decide (q.to = d.fr))),by simp only;omega,by simp only;omega,back_under ?_ ?_ ?_⟩
          · first
              | exact hn.fgtL (L:=[_,_,_,_]) (L1:=[_,_,_]) ⟨rfl,⟨_,rfl,.imm him6⟩,rfl,⟨_,rfl,.imm him7⟩,rfl,⟨_,rfl,.imm him9⟩,trivial⟩
              | exact hn.fgtL (L:=[_,_,_,_,_]) (L1:=[_,_,_,_]) ⟨rfl,⟨_,rfl,.imm him6⟩,rfl,⟨_,rfl,.imm him7⟩,rfl,⟨_,rfl,.imm him9⟩,rfl,⟨_,rfl,.imm him5⟩,trivial⟩
          · simp only[d1,d2,d3,d4,ht0,Bool.and_true,Bool.and_false,Bool.or_false,Bool.or_true,Bool.and_self,Bool.or_self,Bool.true_or,Bool.false_or,↓evPre,↓evPreW,evPost,evPostW,← List.map_take,← List.map_drop,↓reduceIte,reduceCtorEq,Nat.reduceEqDiff,forall_const,implies_true,Nat.reduceAdd,Nat.reduceSub,Nat.reduceMul,Nat.reduceLT,Nat.reduceLeDiff,Int.reduceToNat,Int.reduceAdd,Int.reduceSub,Int.reduceNeg,Int.reduceMul,Int.reduceLT,Int.reduceLE,Int.reduceEq]
          · simp [V.under,V.allUnder]
      · have hlt : ¬ (k : Int) < i:=by omega
        cases tw<;>simp (disch:=first|omega|(simp only[lenT];omega)) only[dF hlt,r1,r2,r3,true_and,dstR,evSt,↓evPre,↓evPreW,evPost,evPostW,← List.map_take,← List.map_drop,↓reduceIte,reduceCtorEq,Nat.reduceEqDiff,forall_const,implies_true,Nat.reduceAdd,Nat.reduceSub,Nat.reduceMul,Nat.reduceLT,Nat.reduceLeDiff,Int.reduceToNat,Int.reduceAdd,Int.reduceSub,Int.reduceNeg,Int.reduceMul,Int.reduceLT,Int.reduceLE,Int.reduceEq]
        all_goals
          refine (fu _).then ?_
          cases hu : useF d<;>cases h5 : decide (d.fr = d.to)<;>simp (disch:=first|omega|(simp only[lenT];omega)) only[h5,r1,r2,r3,true_and,dstR,List.cons_append,List.nil_append,evSt,↓evPre,↓evPreW,evPost,evPostW,← List.map_take,← List.map_drop,↓reduceIte,reduceCtorEq,Nat.reduceEqDiff,forall_const,implies_true,Nat.reduceAdd,Nat.reduceSub,Nat.reduceMul,Nat.reduceLT,Nat.reduceLeDiff,Int.reduceToNat,Int.reduceAdd,Int.reduceSub,Int.reduceNeg,Int.reduceMul,Int.reduceLT,Int.reduceLE,Int.reduceEq]
        all_goals first
          | exact ⟨_,S,hn.fgt _,.nil,Nat.le_refl _,[],rfl,by simp,rfl⟩
          | exact ⟨_,S,hn.fgt _,fin_es (es:=[14]) rfl,Nat.le_refl _,[14],rfl,by simp,rfl⟩
          | exact ⟨_,S,hn.fgt _,fin_es (es:=[6]) rfl,Nat.le_refl _,[6],rfl,by simp,rfl⟩
          | exact ⟨_,S,hn.fgt _,fin_es (es:=[2]) rfl,Nat.le_refl _,[2],rfl,by simp,rfl⟩
          | exact ⟨_,S,hn.fgt _,fin_es (es:=[14,6]) rfl,Nat.le_refl _,[14,6],rfl,by simp,rfl⟩
          | exact ⟨_,S,hn.fgt _,fin_es (es:=[14,2]) rfl,Nat.le_refl _,[14,2],rfl,by simp,rfl⟩
          | exact ⟨_,S,hn.fgt _,fin_es (es:=[6,2]) rfl,Nat.le_refl _,[6,2],rfl,by simp,rfl⟩
          | exact ⟨_,S,hn.fgt _,fin_es (es:=[14,6,2]) rfl,Nat.le_refl _,[14,6,2],rfl,by simp,rfl⟩
end Go.Proofs.YtiihkfjbllpiaaaGreatDoor
/- Two periods: whether they have a day in common (the reference's way). -/
namespace Go.Proofs.YtiihkfjbllpiaaaGreatDoor
open Go Go.AL
set_option linter.unusedSectionVars false
variable [Go.AL.Mode] [Go.AL.LooseM]
set_option linter.unusedSimpArgs false
set_option linter.unusedVariables false
set_option maxHeartbeats 4000000 in
theorem of_A (L : List Int) (hL : L.length ≤ 100000) (x : AL.Obj) (S : Store) : CallA Tryz.prog 146 [accV (S.length + 1) (L.map inR)] (S ++ x :: accT 3 1 (L.map inR)) fun r S'=>∃ a b c : Int,r = .tup [.agg [.int .i64 a,.int .i64 b,.int .i64 c],.bool (decide (L ≠ []))] ∧ S' = S ++ x :: accT 3 1 (L.map inR):=by
  refine CallA.withNeat Tryz.func146 c646 fun hn=>?_
  refine CallA.fin Tryz.func146 c646 (Nat.le_of_ble_eq_true rfl) fun σ hσ=>?_
  cases L with
  | nil =>
    simp only[List.map_nil,accV,accT] at hn hσ ⊢
    simp (disch:=first|omega|(simp only[lenT];omega)) only[a646,evSt,↓eA,eB,evU,seval]
    refine ⟨_,S ++ [x],by have:=hn.fgt [⟨0,some (.arr 38 3 [[.int .i64 0,.int .i64 0,.int .i64 0]])⟩];rw[List.append_assoc] at this;exact this,.imm rfl,by simp,0,0,0,by simp,rfl⟩
  | cons a L =>
    simp only[List.map_cons,accV,accT] at hn hσ ⊢
    simp only[List.length_cons] at hL
    obtain ⟨b,hb⟩ : ∃ b,(a :: L)[L.length]? = some b:=⟨_,List.getElem?_eq_getElem (by simp)⟩
    have hat : ∀ (k : Nat) (y : Int),(a :: L)[k]? = some y → ([.int .i64 a] :: L.map inR)[k]? = some [.int .i64 y]:=fun k y h=>by
      show ((a :: L).map inR)[k]? = _
      rw[List.getElem?_map,h]
      rfl
    have hb':=hat _ _ hb
    have hc1 : ((L.length + 1 : Nat) : Int) - 1 = (L.length : Nat):=by omega
    have hz : decide (((L.length + 1 : Nat) : Int) = 0) = false:=decide_eq_false (by omega)
    simp (disch:=first|omega|(simp only[lenT];omega)) only[a646,hz,hc1,hb',inR,wrap_i64,List.length_cons,evSt,↓eA,eB,evU,seval]
    have hfg : ∀ T,Fgt (S ++ ([x,⟨L.length,some (.arr 3 1 ([.int .i64 a] :: L.map inR))⟩] ++ T)) (S ++ [x,⟨L.length,some (.arr 3 1 ([.int .i64 a] :: L.map inR))⟩]):=fun T=>by
      have:=hn.fgt T
      rw[List.append_assoc] at this
      simpa [inR] using this
    refine loopA (ι:=Nat × Int) (fun i=>[(0,.msl (S.length + 1) L.length 0 (L.length + 1)),(2,.ptr (S.length + 2) 0 0 0),(4,.ptr (S.length + 3) 0 0 0),(5,.int .i64 (i.1 : Nat))])
      (fun i=>S ++ [x,⟨L.length,some (.arr 3 1 ([.int .i64 a] :: L.map inR))⟩,⟨0,some (.arr 38 3 [[.int .i64 0,.int .i64 0,.int .i64 0]])⟩,⟨0,some (.arr 38 3 [[.int .i64 a,.int .i64 b,.int .i64 i.2]])⟩]) (fun i=>i.1 ≤ L.length + 1 ∧ 0 ≤ i.2 ∧ i.2 ≤ 128 * i.1) (fun i=>L.length + 1 - i.1) (0,0) ⟨Nat.zero_le _,by simp,by simp⟩ ?_ rfl ?_
    · simp only[↓eA,eB,evU,seval]
      try rfl
    rintro ⟨k,dv⟩ ⟨hk,hd0,hd1⟩
    simp only at hk hd0 hd1 ⊢
    cases hck : (a :: L)[k]? with
    | none =>
      have hge:=List.getElem?_eq_none_iff.1 hck
      simp only[List.length_cons] at hge
      have hlt : ¬ ((k : Int) < ((L.length + 1 : Nat) : Int)):=by omega
      simp (disch:=first|omega|(simp only[lenT];omega)) only[dF hlt,evSt,↓eA,eB,evU,seval]
      exact ⟨_,_,hfg [_,_],.imm rfl,by simp,a,b,dv,by simp,by simp [inR]⟩
    | some y =>
      have hlt':=(List.getElem?_eq_some_iff.1 hck).1
      simp only[List.length_cons] at hlt'
      have hlt : ((k : Int) < ((L.length + 1 : Nat) : Int)):=by omega
      have hk1 : (k : Int) + 1 = ((k + 1 : Nat) : Int):=by omega
      have hky:=hat _ _ hck
      have hp:=pow2_small (k:=wday y) (Nat.le_of_lt (wday_lt y))
      have hne : ((2 : Int) ^ wday y) ≠ 0:=by omega
      have hq : 0 ≤ dv.tdiv (2 ^ wday y) ∧ dv.tdiv (2 ^ wday y) ≤ dv:=by
        rw[Int.tdiv_eq_ediv_of_nonneg hd0]
        exact ⟨Int.ediv_nonneg hd0 (by omega),Int.ediv_le_self _ hd0⟩
      simp (disch:=first|omega|(simp only[lenT];omega)) only[dT hlt,hky,evSt,↓eA,eB,evU,seval]
      refine exD.intro (bit_A y _) ?_
      cases hz2 : decide ((dv.tdiv (2 ^ wday y)).tmod 2 = 0)
      all_goals simp (disch:=first|omega|(simp only[lenT];omega)) only[hne,hz2,hky,ne_eq,not_false_eq_true,wrap_i64,hk1,evSt,↓eA,eB,evU,seval]
      · exact ⟨(k + 1,dv),⟨by simp only;omega,hd0,by simp only;omega⟩,by simp only;omega,rfl,rfl⟩
      · refine exD.intro (bit_A y _) ?_
        simp (disch:=first|omega|(simp only[lenT];omega)) only[wrap_i64,hk1,evSt,↓eA,eB,evU,seval]
        exact ⟨(k + 1,dv + 2 ^ wday y),⟨by simp only;omega,by simp only;omega,by simp only;omega⟩,by simp only;omega,rfl,rfl⟩
theorem meet_filter (a b : Pd) : meetF a b = decide ((daysF a).filter (hasF b) ≠ []):=by
  unfold meetF
  cases h : (daysF a).any (hasF b) with
  | true =>
    obtain ⟨d,h1,h2⟩:=List.any_eq_true.1 h
    exact (decide_eq_true (List.ne_nil_of_mem (List.mem_filter.2 ⟨h1,h2⟩))).symm
  | false =>
    rw[List.any_eq_false] at h
    refine (decide_eq_false fun g=>g ?_).symm
    rw[List.filter_eq_nil_iff]
    exact h
theorem daysF_len (p : Pd) : (daysF p).length ≤ 800:=by
  by_cases hok : pdF p = 0
  · rw[daysF_eq hok]
    have:=daysTo_len p (p.t - p.f + 1).toNat
    have:=pd_ok hok
    omega
  · unfold daysF;rw[if_neg hok];simp
theorem rmeet_A (p q : Pd) (S : Store) : CallA Tryz.prog 105 [.agg (pdR p),.agg (pdR q)] S fun r S'=>∃ a b c : Int,r = .tup [.agg [.int .i64 a,.int .i64 b,.int .i64 c],.bool (meetF p q)] ∧ S' = S:=by
  refine CallA.withNeat Tryz.func105 c605 fun hn=>?_
  refine CallA.fin Tryz.func105 c605 (Nat.le_of_ble_eq_true rfl) fun σ hσ=>?_
  have hdy:=fun S=>rdays_A p S
  have hhs:=fun d S=>rhas_A q d S
  simp only[pdR] at hdy hhs
  have hdl:=daysF_len p
  rw[meet_filter]
  simp (disch:=first|omega|(simp only[lenT];omega)) only[a605,pdR,evSt,↓eA,eB,evU,seval]
  refine (hdy _).then ?_
  simp (disch:=first|omega|(simp only[lenT];omega)) only[evSt,↓eA,eB,evU,seval]
  refine loopA (ι:=Nat) (fun k=>[(3,.cptr [.int .i64 q.f,.int .i64 q.t,.int .i64 q.d]),(4,.ptr S.length 0 0 0),(6,.sl 1 ((daysF p).map inR)),(7,accV (S.length + 1) ((((daysF p).take k).filter (hasF q)).map inR)),(8,.int .i64 (k : Nat))])
    (fun k=>S ++ ⟨0,some (.arr 38 3 [[.int .i64 0,.int .i64 0,.int .i64 0]])⟩ :: accT 3 1 ((((daysF p).take k).filter (hasF q)).map inR)) (fun k=>k ≤ (daysF p).length) (fun k=>(daysF p).length - k) 0 (Nat.zero_le _) ?_ rfl ?_
  · simp only[↓eA,eB,evU,seval]
    try rfl
  intro k hk
  cases hc : (daysF p)[k]? with
  | none =>
    have hge:=List.getElem?_eq_none_iff.1 hc
    have hlt : ¬ ((k : Int) < (daysF p).length):=by omega
    rw[List.take_of_length_le hge]
    have hfl : ((daysF p).filter (hasF q)).length ≤ 100000:=by have:=List.length_filter_le (hasF q) (daysF p);omega
    simp (disch:=first|omega|(simp only[lenT];omega)) only[dF hlt,evSt,↓eA,eB,evU,seval]
    refine (of_A ((daysF p).filter (hasF q)) hfl _ S).mono ?_
    rintro _ _ ⟨a,b,c,rfl,rfl⟩
    simp (disch:=first|omega|(simp only[lenT];omega)) only[evSt,↓eA,eB,evU,seval]
    exact ⟨_,S,hn.fgt _,.imm rfl,Nat.le_refl _,a,b,c,rfl,rfl⟩
  | some d =>
    have hlt':=(List.getElem?_eq_some_iff.1 hc).1
    have hlt : ((k : Int) < (daysF p).length):=by omega
    have hk1 : (k : Int) + 1 = ((k + 1 : Nat) : Int):=by omega
    have hb0 : ((((daysF p).take k).filter (hasF q)).map inR).length < 100000000:=by
      have:=List.length_filter_le (hasF q) ((daysF p).take k)
      simp only[List.length_map]
      simp only[List.length_take] at this
      omega
    have hst : ((daysF p).take (k + 1)).filter (hasF q) = ((daysF p).take k).filter (hasF q) ++ if hasF q d then [d] else []:=by
      rw[take_at hc,List.filter_append]
      congr 1
      simp only[List.filter_cons,List.filter_nil]
    simp (disch:=first|omega|(simp only[lenT];omega)) only[dT hlt,hc,inR,evSt,↓eA,eB,evU,seval]
    refine (hhs d _).then ?_
    cases hb : hasF q d with
    | true =>
      rw[hb,if_pos rfl] at hst
      simp (disch:=first|omega|(simp only[lenT];omega)) only[hc,inR,app_acc1 rfl hb0,wrap_i64,hk1,evSt,↓eA,eB,evU,seval]
      exact ⟨k + 1,by omega,by omega,⟨by rw[hst,List.map_append];rfl,rfl⟩,by rw[hst,List.map_append];rfl⟩
    | false =>
      rw[hb] at hst
      simp only[Bool.false_eq_true,if_false,List.append_nil] at hst
      simp (disch:=first|omega|(simp only[lenT];omega)) only[hc,inR,wrap_i64,hk1,evSt,↓eA,eB,evU,seval]
      exact ⟨k + 1,by omega,by omega,⟨by rw[hst],rfl⟩,by rw[hst]⟩
def meetsF (x y : Fl) : Bool:=decide (x.c = y.c) && (decide (x.n = y.n) && meetF x.p y.p)
theorem rmeets_A (x y : Fl) (S : Store) : CallA Tryz.prog 52 [.agg (flR x),.agg (flR y)] S fun r S'=>r = .bool (meetsF x y) ∧ S' = S:=by
  refine CallA.withNeat Tryz.func52 c552 fun hn=>?_
  refine CallA.fin Tryz.func52 c552 (Nat.le_of_ble_eq_true rfl) fun σ hσ=>?_
  have hm:=fun S=>rmeet_A x.p y.p S
  simp only[pdR] at hm
  simp (disch:=first|omega|(simp only[lenT];omega)) only[a552,flR,evSt,↓eA,eB,evU,seval]
  refine (hm _).mono ?_
  rintro _ S2 ⟨a,b,c,rfl,hS2⟩
  rw[hS2]
  unfold meetsF
  generalize meetF x.p y.p = m
  cases h1 : decide (x.c = y.c)<;>cases h2 : decide (x.n = y.n)<;>simp (disch:=first|omega|(simp only[lenT];omega)) only[h1,h2,flR,Bool.true_and,Bool.false_and,evSt,↓eA,eB,evU,seval]
  all_goals exact ⟨_,S,hn.fgt _,.imm rfl,Nat.le_refl _,rfl,rfl⟩
def txFl : Txt:=[102,108,105,103,104,116,32]
def ttErrs (p : Pls) (l : List Fl) (T : Int → Txt) : Nat → List Ft
  | 0=>[]
  | k + 1=>ttErrs p l T k ++ match l[k]? with
    | some x=>(flErr p x T).map (fun f=>⟨f.err,txFl ++ decB k ++ [32] ++ f.at_⟩) ++ if (l.take k).any (fun y=>meetsF y x) then [⟨6,txFl ++ decB k⟩] else []
    | none=>[]
theorem dayErr_len (p : Pls) (x : Fl) (T : Int → Txt) : (dayErr p x T).length ≤ 1:=by
  unfold dayErr
  split<;>simp
theorem flErr_len (p : Pls) (x : Fl) (T : Int → Txt) : (flErr p x T).length ≤ 30:=by
  unfold flErr
  have h1:=hdErr_len x
  have h2:=legsErr_len p x.legs x.legs.length
  have h3:=dayErr_len p x T
  split
  · simp only[List.length_append,List.length_cons,List.length_nil];omega
  · split
    · omega
    · simp only[List.length_append];omega
theorem flErr_at (p : Pls) (x : Fl) {T : Int → Txt} (hT : ∀ d,(T d).length ≤ 100) : ∀ f ∈ flErr p x T,f.at_.length ≤ 200:=by
  have g1 : ∀ f ∈ hdErr x,f.at_.length ≤ 200:=fun f hf=>by
    unfold hdErr hd2 hd1 at hf
    simp only[List.mem_append] at hf
    rcases hf with (hf | hf) | hf
    · split at hf
      · cases hf
      · rw[List.mem_singleton] at hf;subst hf;decide
    · split at hf
      · rw[List.mem_singleton] at hf;subst hf;decide
      · cases hf
    · split at hf
      · rw[List.mem_singleton] at hf;subst hf;exact Nat.le_of_ble_eq_true rfl
      · cases hf
  have g2 : ∀ k,∀ f ∈ legsErr p x.legs k,f.at_.length ≤ 200:=by
    intro k
    induction k with
    | zero=>intro f hf;cases hf
    | succ k ih =>
      intro f hf
      rw[legsErr,List.mem_append] at hf
      rcases hf with hf | hf
      · exact ih f hf
      · split at hf
        · obtain ⟨e,_,rfl⟩:=List.mem_map.1 hf
          have:=decB_len k
          have h5 : txLeg.length = 4:=rfl
          simp only[List.length_append]
          omega
        · cases hf
  intro f hf
  unfold flErr at hf
  split at hf
  · rw[List.mem_append] at hf
    rcases hf with hf | hf
    · exact g1 f hf
    · rw[List.mem_singleton] at hf;subst hf;decide
  · split at hf
    · unfold dayErr at hf
      split at hf
      · rename_i d _
        rw[List.mem_singleton] at hf
        subst hf
        have:=hT d
        have h5 : txDay.length = 4:=rfl
        simp only[List.length_append]
        omega
      · cases hf
    · rw[List.mem_append] at hf
      rcases hf with hf | hf
      · exact g1 f hf
      · exact g2 _ f hf
theorem ttErrs_len (p : Pls) (l : List Fl) (T : Int → Txt) : ∀ k,(ttErrs p l T k).length ≤ 31 * k
  | 0=>by simp [ttErrs]
  | k + 1=>by
    have h:=ttErrs_len p l T k
    rw[ttErrs,List.length_append]
    cases hc : l[k]? with
    | none=>simp only[List.length_nil];omega
    | some x =>
      have:=flErr_len p x T
      simp only[List.length_append,List.length_map]
      split<;>simp<;>omega
theorem ttErrs_ok {p : Pls} {l : List Fl} {T : Int → Txt} (h : ttErrs p l T l.length = []) : TtOk p l:=by
  have all : ∀ k,k ≤ l.length → ttErrs p l T k = [] → ∀ i x,i < k → l[i]? = some x → flErr p x T = [] ∧ (l.take i).any (fun y=>meetsF y x) = false:=by
    intro k
    induction k with
    | zero=>intro _ _ i x hi;omega
    | succ k ih =>
      intro hk he i x hi hx
      rw[ttErrs] at he
      obtain ⟨e1,e2⟩:=List.append_eq_nil_iff.1 he
      by_cases hik : i = k
      · subst hik
        rw[hx] at e2
        obtain ⟨e3,e4⟩:=List.append_eq_nil_iff.1 e2
        refine ⟨List.map_eq_nil_iff.1 e3,?_⟩
        cases ha : (l.take i).any (fun y=>meetsF y x) with
        | false=>rfl
        | true=>rw[ha] at e4;simp at e4
      · exact ih (by omega) e1 i x (by omega) hx
  have key:=all l.length (Nat.le_refl _) h
  refine ⟨fun x hx=>?_,fun i j x y hij hx hy hc hn=>?_⟩
  · obtain ⟨i,hi⟩:=List.getElem?_of_mem hx
    exact flOk (key i x (List.getElem?_eq_some_iff.1 hi).1 hi).1
  · have h1:=(key j y (List.getElem?_eq_some_iff.1 hy).1 hy).2
    rw[List.any_eq_false] at h1
    have h2:=h1 x (List.mem_of_getElem? (i:=i) (by rw[List.getElem?_take,if_pos hij];exact hx))
    cases hm : meetF x.p y.p with
    | false=>rfl
    | true=>exact absurd (by unfold meetsF;rw[dT hc,dT hn,hm];rfl) h2
end Go.Proofs.YtiihkfjbllpiaaaGreatDoor
/- The reference's look at a flight,whole. -/
namespace Go.Proofs.YtiihkfjbllpiaaaGreatDoor
open Go Go.AL
set_option linter.unusedSectionVars false
variable [Go.AL.Mode] [Go.AL.LooseM]
set_option linter.unusedSimpArgs false
set_option linter.unusedVariables false
theorem headF_bad {p : Pls} {x : Fl} {T : Int → Txt} (h : x.legs.length = 0 ∨ 6 < x.legs.length) : headF x = flErr p x T:=by
  unfold headF flErr
  rw[if_pos h,if_pos (by omega)]
theorem headF_good {x : Fl} (h : ¬ (x.legs.length = 0 ∨ 6 < x.legs.length)) : headF x = hdErr x:=by
  unfold headF
  rw[if_neg (by omega),List.append_nil]
theorem head_G (x : Fl) (hl : x.legs.length ≤ 1100000) (S : Store) : CallA Tryz.prog 96 [.agg (flR x)] S fun r S'=>∃ v,r = .msl S.length v 0 (headF x).length ∧ S' = S ++ [⟨v,some (.arr 78 2 ((headF x).map ftR))⟩]:=by
  refine (head_A x hl S).ghost ?_
  rintro _ _ ⟨rfl,rfl⟩
  cases headF x with
  | nil=>exact .inr ⟨rfl,0,78,2,0,by simp [accT],by simp [accT]⟩
  | cons a l=>exact .inl ⟨l.length,by simp [accV],by simp [accT]⟩
theorem ft_frz {S : Store} {L : Store} {v n : Nat} {l : List Ft} (hn : n = l.length) : Frz (S ++ ⟨v,some (.arr 78 2 (l.map ftR))⟩ :: L) S (.msl S.length v 0 n) (.sl 2 (l.map ftR)) :=
  .sl (t:=78) (Nat.le_refl _) (by rw[ob_app0,ob_head]) (by simp [hn]) (ftR_imm l)
def rowL (k : Nat) (e : Int) : List V:=[.int .i64 e,.str (txLeg ++ decB k)]
def rowsK (p : Pls) (x : Fl) (k : Nat) : List (List V):=(hdErr x ++ legsErr p x.legs k).map ftR
theorem rowsK_succ {p : Pls} {x : Fl} {k : Nat} {l : Lg} (h : x.legs[k]? = some l) : rowsK p x (k + 1) = rowsK p x k ++ (legErr p x.legs k l).map (rowL k):=by
  unfold rowsK
  rw[legsErr,h]
  simp only[List.map_append,List.map_map,List.append_assoc]
  rfl
theorem rowsK_imm (p : Pls) (x : Fl) (k : Nat) : ∀ r ∈ rowsK p x k,r.length = 2 ∧ V.allImm r = true:=ftR_imm _
theorem rowsK_len (p : Pls) (x : Fl) (k : Nat) : (rowsK p x k).length ≤ 4 * k + 3:=by
  have:=legsErr_len p x.legs k
  have:=hdErr_len x
  unfold rowsK
  simp only[List.length_map,List.length_append]
  omega
set_option maxHeartbeats 4000000 in
theorem rflight_A (p : Pls) (hp : POk p) (x : Fl) (hl : x.legs.length ≤ 1100000) (T : Int → Txt) (hP : ∀ d ∈ daysF x.p,badDay p x d = true → ∀ S,CallA Tryz.prog 104 [.int .i64 d] S fun r S'=>r = .str (T d) ∧ S' = S) (hT : ∀ d,(T d).length ≤ 100) (S : Store) :
    CallA Tryz.prog 51 [plV p,.agg (flR x)] S fun r S'=>r = .sl 2 ((flErr p x T).map ftR) ∧ S' = S:=by
  refine CallA.withNeat Tryz.func51 c551 fun hn=>?_
  refine CallA.fin Tryz.func51 c551 (Nat.le_of_ble_eq_true rfl) fun σ hσ=>?_
  have hh:=fun S=>head_G x hl S
  simp only[flR] at hh
  simp (disch:=first|omega|(simp only[lenT];omega)) only[a551,plV,flR,evSt,↓eA,eB,evU,seval]
  refine (hh _).mono ?_
  rintro _ _ ⟨v,rfl,rfl⟩
  by_cases hL : x.legs.length = 0 ∨ 6 < x.legs.length
  · rcases Nat.eq_zero_or_pos x.legs.length with h6 | h6
    case' inl=>have h7 : decide ((x.legs.length : Int) < 1) = true:=decide_eq_true (by omega)
    case' inr =>
      have h7 : decide ((x.legs.length : Int) < 1) = false:=decide_eq_false (by omega)
      have h8 : decide (6 < (x.legs.length : Int)) = true:=decide_eq_true (by omega)
    case' inl=>simp (disch:=first|omega|(simp only[lenT];omega)) only[flR,h7,evSt,↓eA,eB,evU,seval]
    case' inr=>simp (disch:=first|omega|(simp only[lenT];omega)) only[flR,h7,h8,evSt,↓eA,eB,evU,seval]
    all_goals
      rw[headF_bad (p:=p) (T:=T) hL]
      exact ⟨_,S,hn.fgt _,ft_frz rfl,Nat.le_refl _,rfl,rfl⟩
  rw[headF_good hL]
  have h7 : decide ((x.legs.length : Int) < 1) = false:=decide_eq_false (by omega)
  have h8 : decide (6 < (x.legs.length : Int)) = false:=decide_eq_false (by omega)
  simp (disch:=first|omega|(simp only[lenT];omega)) only[flR,h7,h8,evSt,↓eA,eB,evU,seval]
  refine loopF (ι:=Nat × Nat) (fun i=>[(2,.cptr [.sl 5 (p.1.map aptR),.sl 3 (p.2.map dstR)]),(3,.cptr (flR x)),(5,.msl S.length i.2 0 (rowsK p x i.1).length),(6,.int .i64 (i.1 : Nat))]) (fun i=>S ++ [⟨i.2,some (.arr 78 2 (rowsK p x i.1))⟩]) (fun i=>i.1 ≤ x.legs.length) (fun i=>x.legs.length - i.1) (fun i hi=>by rw[hσ];simp) (0,v) (Nat.zero_le _) (.inl ⟨?_,?_⟩) ?_
  · simp [rowsK,legsErr,flR,sub,Env.get]
  · simp [rowsK,legsErr]
  rintro ⟨k,v⟩ hk
  simp only at hk
  have hrl:=rowsK_len p x k
  cases hc : x.legs[k]? with
  | none =>
    have hge : x.legs.length ≤ k:=List.getElem?_eq_none_iff.1 hc
    have hlt : ¬ ((k : Int) < x.legs.length):=by omega
    have hkl : k = x.legs.length:=by omega
    subst hkl
    have hdy:=fun S=>rdays_A x.p S
    have hlg:=fun d S=>rlegs0_A p hp x d (by omega) S
    have hor:=fun d S=>rordered_A (legsF p x d) (by simp [legsF];omega) S
    simp only[pdR] at hdy
    simp only[plV,flR] at hlg
    simp (disch:=first|omega|(simp only[lenT];omega)) only[flR,dF hlt,evSt,↓eA,eB,evU,seval]
    refine (hdy _).then ?_
    simp (disch:=first|omega|(simp only[lenT];omega)) only[flR,dF hlt,evSt,↓eA,eB,evU,seval]
    have hdl : (daysF x.p).length ≤ 800:=by
      by_cases hok : pdF x.p = 0
      · rw[daysF_eq hok]
        have:=daysTo_len x.p (x.p.t - x.p.f + 1).toNat
        have:=pd_ok hok
        omega
      · unfold daysF;rw[if_neg hok];simp
    have hrk : rowsK p x x.legs.length = (hdErr x ++ legsErr p x.legs x.legs.length).map ftR:=rfl
    have hF : flErr p x T = if hdErr x ++ legsErr p x.legs x.legs.length = [] then dayErr p x T else hdErr x ++ legsErr p x.legs x.legs.length:=by
      unfold flErr
      rw[if_neg hL]
    rw[hrk,List.length_map]
    generalize hdErr x ++ legsErr p x.legs x.legs.length = fs at hF
    have hfl:=congrArg List.length hrk
    refine loopF (ι:=Nat × Nat × List Ft) (fun i=>[(2,.cptr [.sl 5 (p.1.map aptR),.sl 3 (p.2.map dstR)]),(3,.cptr (flR x)),(5,.msl S.length i.2.1 0 i.2.2.length),(13,.sl 1 ((daysF x.p).map inR)),(14,.int .i64 (i.1 : Nat))]) (fun i=>S ++ [⟨i.2.1,some (.arr 78 2 (i.2.2.map ftR))⟩])
      (fun i=>i.1 ≤ (daysF x.p).length ∧ ((i.2.2 ≠ [] ∧ i.2.2 = flErr p x T) ∨ (i.2.2 = [] ∧ flErr p x T = dayErr p x T ∧ (daysF x.p).find? (badDay p x) = ((daysF x.p).drop i.1).find? (badDay p x)))) (fun i=>(daysF x.p).length - i.1) (fun i hi=>by rw[hσ];simp) (0,v,fs) ⟨Nat.zero_le _,?_⟩ (.inl ⟨?_,rfl⟩) ?_
    · by_cases hfs : fs = []
      · rw[if_pos hfs] at hF
        exact .inr ⟨hfs,hF,rfl⟩
      · rw[if_neg hfs] at hF
        exact .inl ⟨hfs,hF.symm⟩
    · simp only[flR,↓eA,eB,evU,seval]
      try rfl
    rintro ⟨j,v,gs⟩ ⟨hj,hinv⟩
    simp only at hj hinv ⊢
    rcases hinv with ⟨g1,g2⟩ | ⟨rfl,g2,g3⟩
    · have hz : decide ((gs.length : Int) = 0) = false:=decide_eq_false (fun h=>g1 (List.eq_nil_of_length_eq_zero (by omega)))
      simp (disch:=first|omega|(simp only[lenT];omega)) only[flR,hz,evSt,↓eA,eB,evU,seval]
      exact ⟨_,S,hn.fgt _,ft_frz rfl,Nat.le_refl _,by rw[g2],rfl⟩
    cases hcj : (daysF x.p)[j]? with
    | none =>
      have hgej : (daysF x.p).length ≤ j:=List.getElem?_eq_none_iff.1 hcj
      have hltj : ¬ ((j : Int) < (daysF x.p).length):=by omega
      have hf:=find_end g3 hcj
      have hD : flErr p x T = []:=by rw[g2];unfold dayErr;rw[hf]
      simp (disch:=first|omega|(simp only[lenT];omega)) only[flR,dF hltj,List.length_nil,List.map_nil,evSt,↓eA,eB,evU,seval]
      exact ⟨_,S,hn.fgt _,ft_frz (l:=[]) rfl,Nat.le_refl _,by rw[hD],rfl⟩
    | some d =>
      have hltj':=(List.getElem?_eq_some_iff.1 hcj).1
      have hltj : (j : Int) < (daysF x.p).length:=by omega
      have hj1 : (j : Int) + 1 = ((j + 1 : Nat) : Int):=by omega
      simp (disch:=first|omega|(simp only[lenT];omega)) only[flR,dT hltj,hcj,inR,List.length_nil,List.map_nil,evSt,↓eA,eB,evU,seval]
      refine (hlg d _).then ?_
      simp (disch:=first|omega|(simp only[lenT];omega)) only[flR,evSt,↓eA,eB,evU,seval]
      refine (hor d _).then ?_
      cases ho : ordL none (legsF p x d) with
      | true =>
        simp (disch:=first|omega|(simp only[lenT];omega)) only[flR,wrap_i64,hj1,evSt,↓eA,eB,evU,seval]
        refine ⟨(j + 1,v,[]),⟨by simp only;omega,.inr ⟨rfl,g2,find_next g3 hcj (by simp [badDay,ho])⟩⟩,by simp only;omega,.inl ⟨?_,rfl⟩⟩
        simp only[flR,List.length_nil,↓eA,eB,evU,seval]
        try rfl
      | false =>
        have hb : badDay p x d = true:=by simp [badDay,ho]
        have hf:=find_hit g3 hcj hb
        have hD : flErr p x T = [⟨13,txDay ++ T d⟩]:=by rw[g2];unfold dayErr;rw[hf]
        have hadd : binV .add (.str [100,97,121,32]) (.str (T d)) = some (.str (txDay ++ T d)):=bs_add (by have:=hT d;simp only[List.length_cons,List.length_nil];unfold maxLen;omega)
        simp (disch:=first|omega|(simp only[lenT];omega)) only[flR,hcj,inR,evSt,↓eA,eB,evU,seval]
        refine (hP d (List.mem_of_getElem? hcj) hb _).then ?_
        simp (disch:=first|omega|(simp only[lenT];omega)) only[flR,hadd,wrap_i64,hj1,evSt,↓eA,eB,evU,seval]
        refine ⟨by unfold roomA;omega,(j + 1,v + 1,[⟨13,txDay ++ T d⟩]),⟨by simp only;omega,.inl ⟨by simp,hD.symm⟩⟩,by simp only;omega,.inl ⟨?_,rfl⟩⟩
        simp only[flR,List.length_cons,List.length_nil,↓eA,eB,evU,seval]
        try rfl
  | some l =>
    have hlt':=(List.getElem?_eq_some_iff.1 hc).1
    have hlt : (k : Int) < x.legs.length:=by omega
    obtain ⟨c1,c2,c3,o1,v1,e1,i1,k1,_,_⟩:=find_zone p hp l.f
    obtain ⟨c4,c5,c6,o2,v2,e2,i2,k2,_,_⟩:=find_zone p hp l.t
    have f1:=fun S=>rfind_A p l.f S hp.h1
    have f2:=fun S=>rfind_A p l.t S hp.h1
    simp only[plV,e1] at f1
    simp only[plV,e2] at f2
    have hcode:=fun S=>rcodeT_A l.eq 3 3 S
    have hdec:=fun S=>decimal_A k S (by omega)
    have hbr:=fun S=>broken_A x.legs k l (by omega) hc S
    have hm1:=fun S=>out_A l.dep S
    have hm2:=fun S=>out_A l.arr S
    have hadd : binV .add (.str [108,101,103,32]) (.str (decB k)) = some (.str (txLeg ++ decB k)):=bs_add (by have:=decB_len k;simp only[List.length_cons,List.length_nil];unfold maxLen;omega)
    have hst:=rowsK_succ (p:=p) hc
    have himm:=rowsK_imm p x (k + 1)
    simp only[legErr] at hst
    have hX : ∃ X,X = rowsK p x (k + 1):=⟨_,rfl⟩
    obtain ⟨X,hX⟩:=hX
    have hk1 : (k : Int) + 1 = ((k + 1 : Nat) : Int):=by omega
    rw[← hX] at himm hst
    generalize rowsK p x k = R at hrl hst
    simp (disch:=first|omega|(simp only[lenT];omega)) only[flR,dT hlt,hc,hadd,lgR,evSt,↓eA,eB,evU,seval]
    have hR1 : R.length + 0 ≤ 4294967290:=by omega
    generalize hRn : R.length = n at hR1 hrl
    refine (hdec _).then ?_
    simp (disch:=first|omega|(simp only[lenT];omega)) only[flR,hadd,lgR,evSt,↓eA,eB,evU,seval]
    refine (hcode _).then ?_
    generalize codeF l.eq 3 3 = b1 at hst ⊢
    generalize (findF p l.f).isSome = b2 at hst f1 ⊢
    generalize (findF p l.t).isSome = b3 at hst f2 ⊢
    generalize folF x.legs k l = b4 at hst hbr ⊢
    generalize minF l.dep = b5 at hst hm1 ⊢
    generalize minF l.arr = b6 at hst hm2 ⊢
    have room : ∀ m,m ≤ 10 → (n + m ≤ roomA) = True:=fun m hm=>by simp only[eq_iff_iff,iff_true];unfold roomA;omega
    have r1:=room 1 (by omega)
    have r2:=room 2 (by omega)
    have r3:=room 3 (by omega)
    have r4:=room 4 (by omega)
    cases b1<;>simp (disch:=first|omega|(simp only[lenT];omega)) only[hRn,r1,r2,r3,r4,List.length_append,List.length_cons,List.length_nil,Nat.zero_add,true_and,flR,hadd,lgR,evSt,↓eA,eB,evU,seval]
    all_goals refine (f1 _).then ?_
    all_goals simp (disch:=first|omega|(simp only[lenT];omega)) only[hRn,r1,r2,r3,r4,List.length_append,List.length_cons,List.length_nil,Nat.zero_add,true_and,i1,k1,i2,k2,flR,hadd,lgR,evSt,↓eA,eB,evU,seval]
    all_goals refine (f2 _).then ?_
    all_goals (cases b2<;>cases b3<;>simp (disch:=first|omega|(simp only[lenT];omega)) only[hRn,r1,r2,r3,r4,List.length_append,List.length_cons,List.length_nil,Nat.zero_add,true_and,i1,k1,i2,k2,flR,hadd,lgR,evSt,↓eA,eB,evU,seval])
    all_goals refine (hbr _).then ?_
    all_goals (cases b4<;>simp (disch:=first|omega|(simp only[lenT];omega)) only[hRn,r1,r2,r3,r4,List.length_append,List.length_cons,List.length_nil,Nat.zero_add,true_and,i1,k1,i2,k2,flR,hadd,lgR,evSt,↓eA,eB,evU,seval])
    all_goals refine (hm1 _).then ?_
    all_goals (cases b5<;>simp (disch:=first|omega|(simp only[lenT];omega)) only[hRn,r1,r2,r3,r4,List.length_append,List.length_cons,List.length_nil,Nat.zero_add,true_and,i1,k1,i2,k2,flR,hadd,lgR,evSt,↓eA,eB,evU,seval])
    all_goals try (refine (hm2 _).then ?_)
    all_goals try (cases b6<;>simp (disch:=first|omega|(simp only[lenT];omega)) only[hRn,r1,r2,r3,r4,List.length_append,List.length_cons,List.length_nil,Nat.zero_add,true_and,i1,k1,i2,k2,flR,hadd,lgR,evSt,↓eA,eB,evU,seval])
    all_goals
      try simp only[List.append_assoc,List.cons_append,List.nil_append]
      simp only[Bool.true_and,Bool.and_true,Bool.and_self,Bool.false_and,Bool.and_false,if_true,if_false,reduceCtorEq,List.map_cons,List.map_nil,List.nil_append,List.append_nil,List.cons_append,rowL] at hst
      have hln:=congrArg List.length hst
      simp only[List.length_append,List.length_cons,List.length_nil,Nat.zero_add,hRn] at hln
      rw[← hst]
      refine ⟨(k + 1,v + (X.length - n)),by simp only;omega,by simp only;omega,?_⟩
      simp only[← hX]
      refine back_under ?_ ?_ (by simp [V.under,flR,V.allUnder])
      · show Fgt _ (S ++ [⟨v + (X.length - n),some (.arr 78 2 X)⟩])
        exact hn.fgtL (L:=[_,_,_,_]) (L1:=[_]) ⟨by simp only;omega,⟨_,rfl,.imm himm⟩,trivial⟩
      · simp (disch:=first|omega|(simp only[lenT];omega)) only[wrap_i64,hk1,hln,flR,↓eA,eB,evU,seval]
        try (congr 1<;>omega)
end Go.Proofs.YtiihkfjbllpiaaaGreatDoor
/- The reference's look at places,and at a timetable. -/
namespace Go.Proofs.YtiihkfjbllpiaaaGreatDoor
open Go Go.AL
set_option linter.unusedSectionVars false
variable [Go.AL.Mode] [Go.AL.LooseM]
set_option linter.unusedSimpArgs false
set_option linter.unusedVariables false
def txApt : Txt:=[97,105,114,112,111,114,116,32]
def txDst : Txt:=[100,105,115,116,97,110,99,101,32]
structure PSm (p : Pls) : Prop where
  h1 : p.1.length ≤ 1100000
  h2 : p.2.length ≤ 1100000
  h3 : ∀ a ∈ p.1,a.sh.length ≤ 1100000
set_option maxHeartbeats 4000000 in
theorem rplaces_A (p : Pls) (hp : PSm p) (S : Store) : CallA Tryz.prog 44 [plV p] S fun r S'=>∃ l : List Ft,r = .sl 2 (l.map ftR) ∧ (l = [] → ∀ a ∈ p.1,a.sh.length ≤ 256) ∧ S' = S:=by
  refine CallA.withNeat Tryz.func44 c544 fun hn=>?_
  refine CallA.fin Tryz.func44 c544 (Nat.le_of_ble_eq_true rfl) fun σ hσ=>?_
  obtain ⟨hp1,hp2,hp3⟩:=hp
  simp (disch:=first|omega|(simp only[lenT];omega)) only[a544,plV,evSt,↓eA,eB,evU,seval]
  refine loopA (ι:=Nat × List Ft) (fun i=>[(1,.cptr [.sl 5 (p.1.map aptR),.sl 3 (p.2.map dstR)]),(3,accV S.length (i.2.map ftR)),(4,.int .i64 (i.1 : Nat))]) (fun i=>S ++ accT 78 2 (i.2.map ftR))
    (fun i=>i.1 ≤ p.1.length ∧ i.2.length ≤ 4 * i.1 ∧ (i.2 = [] → ∀ (j : Nat) (a : Apt),j < i.1 → p.1[j]? = some a → a.sh.length ≤ 256)) (fun i=>p.1.length - i.1) (0,[]) ⟨Nat.zero_le _,by simp,fun _ j a hj=>by simp at hj⟩ ?_ (by simp [accT]) ?_
  · simp only[List.map_nil,accV_nil,↓eA,eB,evU,seval]
    try rfl
  rintro ⟨i,fs⟩ ⟨hi,hfl,hfz⟩
  simp only at hi hfl hfz ⊢
  cases hc : p.1[i]? with
  | none =>
    have hge:=List.getElem?_eq_none_iff.1 hc
    have hlt : ¬ ((i : Int) < p.1.length):=by omega
    simp (disch:=first|omega|(simp only[lenT];omega)) only[dF hlt,evSt,↓eA,eB,evU,seval]
    have hz : fs = [] → ∀ a ∈ p.1,a.sh.length ≤ 256:=fun h a ha=>by
      obtain ⟨j,hj⟩:=List.getElem?_of_mem ha
      have:=(List.getElem?_eq_some_iff.1 hj).1
      exact hfz h j a (by omega) hj
    refine loopA (ι:=Nat × List Ft) (fun i=>[(1,.cptr [.sl 5 (p.1.map aptR),.sl 3 (p.2.map dstR)]),(3,accV S.length (i.2.map ftR)),(7,.int .i64 (i.1 : Nat))]) (fun i=>S ++ accT 78 2 (i.2.map ftR))
      (fun i=>i.1 ≤ p.2.length ∧ i.2.length ≤ 4400000 + 4 * i.1 ∧ (i.2 = [] → ∀ a ∈ p.1,a.sh.length ≤ 256)) (fun i=>p.2.length - i.1) (0,fs) ⟨Nat.zero_le _,by simp only;omega,hz⟩ ?_ rfl ?_
    · simp only[↓eA,eB,evU,seval]
      try rfl
    rintro ⟨i,gs⟩ ⟨hi,hgl,hgz⟩
    simp only at hi hgl hgz ⊢
    cases hcd : p.2[i]? with
    | none =>
      have hge:=List.getElem?_eq_none_iff.1 hcd
      have hlt : ¬ ((i : Int) < p.2.length):=by omega
      simp (disch:=first|omega|(simp only[lenT];omega)) only[dF hlt,evSt,↓eA,eB,evU,seval]
      exact ⟨_,S,hn.fgt _,frz_acc (ftR_imm gs),Nat.le_refl _,gs,rfl,hgz,rfl⟩
    | some d =>
      have hlt':=(List.getElem?_eq_some_iff.1 hcd).1
      have hlt : ((i : Int) < p.2.length):=by omega
      have hi1 : (i : Int) + 1 = ((i + 1 : Nat) : Int):=by omega
      have hg:=fun S=>rdst_A p (by omega) (by omega) i d hcd S
      simp only[plV] at hg
      have hadd : binV .add (.str [100,105,115,116,97,110,99,101,32]) (.str (decX i)) = some (.str (txDst ++ decX i)):=bs_add (by have:=decX_len i;simp only[List.length_cons,List.length_nil];unfold maxLen;omega)
      simp (disch:=first|omega|(simp only[lenT];omega)) only[dT hlt,evSt,↓eA,eB,evU,seval]
      refine (hg _).mono ?_
      rintro _ _ ⟨es,rfl,hle,rfl⟩
      simp (disch:=first|omega|(simp only[lenT];omega)) only[evSt,↓eA,eB,evU,seval]
      refine loopA (ι:=Nat) (fun k=>[(1,.cptr [.sl 5 (p.1.map aptR),.sl 3 (p.2.map dstR)]),(3,accV S.length ((gs ++ (es.take k).map fun e=>(⟨e,txDst ++ decX i⟩ : Ft)).map ftR)),(7,.int .i64 (i : Nat)),(8,.sl 1 (es.map inR)),(9,.int .i64 (k : Nat))]) (fun k=>S ++ accT 78 2 ((gs ++ (es.take k).map fun e=>(⟨e,txDst ++ decX i⟩ : Ft)).map ftR))
        (fun k=>k ≤ es.length) (fun k=>es.length - k) 0 (Nat.zero_le _) ?_ (by simp) ?_
      · simp only[List.map_nil,List.append_nil,↓eA,eB,evU,seval]
        try rfl
      intro k hk
      cases hce : es[k]? with
      | none =>
        have hge:=List.getElem?_eq_none_iff.1 hce
        have hltk : ¬ ((k : Int) < es.length):=by omega
        simp (disch:=first|omega|(simp only[lenT];omega)) only[dF hltk,wrap_i64,hi1,evSt,↓eA,eB,evU,seval]
        refine ⟨(i + 1,gs ++ (es.take k).map fun e=>(⟨e,txDst ++ decX i⟩ : Ft)),⟨by simp only;omega,?_,fun h=>hgz (List.append_eq_nil_iff.1 h).1⟩,by simp only;omega,⟨rfl,rfl⟩,rfl⟩
        simp only[List.length_append,List.length_map,List.length_take]
        omega
      | some e =>
        have hltk':=(List.getElem?_eq_some_iff.1 hce).1
        have hltk : ((k : Int) < es.length):=by omega
        have hk1 : (k : Int) + 1 = ((k + 1 : Nat) : Int):=by omega
        have hst : (gs ++ (es.take (k + 1)).map fun e=>(⟨e,txDst ++ decX i⟩ : Ft)).map ftR = (gs ++ (es.take k).map fun e=>(⟨e,txDst ++ decX i⟩ : Ft)).map ftR ++ [[.int .i64 e,.str (txDst ++ decX i)]]:=by rw[take_at hce];simp [ftR]
        have hb0 : ((gs ++ (es.take k).map fun e=>(⟨e,txDst ++ decX i⟩ : Ft)).map ftR).length < 100000000:=by simp only[List.length_map,List.length_append,List.length_take];omega
        simp (disch:=first|omega|(simp only[lenT];omega)) only[dT hltk,hce,inR,evSt,↓eA,eB,evU,seval]
        refine exD.intro (decX_A i (by omega) _) ?_
        simp (disch:=first|omega|(simp only[lenT];omega)) only[hadd,app_accL rfl hb0,wrap_i64,hk1,evSt,↓eA,eB,evU,seval]
        exact ⟨k + 1,by omega,by omega,by rw[hst];exact ⟨rfl,rfl⟩,by rw[hst]⟩
  | some a =>
    have hlt':=(List.getElem?_eq_some_iff.1 hc).1
    have hlt : ((i : Int) < p.1.length):=by omega
    have hi1 : (i : Int) + 1 = ((i + 1 : Nat) : Int):=by omega
    have hg:=fun S=>rapt_A p (by omega) i a hc (by have:=hp3 a (List.mem_of_getElem? hc);omega) S
    simp only[plV] at hg
    have hadd : binV .add (.str [97,105,114,112,111,114,116,32]) (.str (decX i)) = some (.str (txApt ++ decX i)):=bs_add (by have:=decX_len i;simp only[List.length_cons,List.length_nil];unfold maxLen;omega)
    simp (disch:=first|omega|(simp only[lenT];omega)) only[dT hlt,evSt,↓eA,eB,evU,seval]
    refine (hg _).mono ?_
    rintro _ _ ⟨es,rfl,hz,hle,rfl⟩
    simp (disch:=first|omega|(simp only[lenT];omega)) only[evSt,↓eA,eB,evU,seval]
    refine loopA (ι:=Nat) (fun k=>[(1,.cptr [.sl 5 (p.1.map aptR),.sl 3 (p.2.map dstR)]),(3,accV S.length ((fs ++ (es.take k).map fun e=>(⟨e,txApt ++ decX i⟩ : Ft)).map ftR)),(4,.int .i64 (i : Nat)),(5,.sl 1 (es.map inR)),(6,.int .i64 (k : Nat))]) (fun k=>S ++ accT 78 2 ((fs ++ (es.take k).map fun e=>(⟨e,txApt ++ decX i⟩ : Ft)).map ftR))
      (fun k=>k ≤ es.length) (fun k=>es.length - k) 0 (Nat.zero_le _) ?_ (by simp) ?_
    · simp only[List.map_nil,List.append_nil,↓eA,eB,evU,seval]
      try rfl
    intro k hk
    cases hce : es[k]? with
    | none =>
      have hge:=List.getElem?_eq_none_iff.1 hce
      have hltk : ¬ ((k : Int) < es.length):=by omega
      simp (disch:=first|omega|(simp only[lenT];omega)) only[dF hltk,wrap_i64,hi1,evSt,↓eA,eB,evU,seval]
      refine ⟨(i + 1,fs ++ (es.take k).map fun e=>(⟨e,txApt ++ decX i⟩ : Ft)),⟨by simp only;omega,?_,fun h j b hj hb=>?_⟩,by simp only;omega,⟨rfl,rfl⟩,rfl⟩
      · simp only[List.length_append,List.length_map,List.length_take]
        omega
      · obtain ⟨h1,h2⟩:=List.append_eq_nil_iff.1 h
        simp only at hj
        by_cases hji : j = i
        · subst hji
          rw[hc] at hb
          cases hb
          rw[List.take_of_length_le hge] at h2
          exact hz (List.map_eq_nil_iff.1 h2)
        · exact hfz h1 j b (by omega) hb
    | some e =>
      have hltk':=(List.getElem?_eq_some_iff.1 hce).1
      have hltk : ((k : Int) < es.length):=by omega
      have hk1 : (k : Int) + 1 = ((k + 1 : Nat) : Int):=by omega
      have hst : (fs ++ (es.take (k + 1)).map fun e=>(⟨e,txApt ++ decX i⟩ : Ft)).map ftR = (fs ++ (es.take k).map fun e=>(⟨e,txApt ++ decX i⟩ : Ft)).map ftR ++ [[.int .i64 e,.str (txApt ++ decX i)]]:=by rw[take_at hce];simp [ftR]
      have hb0 : ((fs ++ (es.take k).map fun e=>(⟨e,txApt ++ decX i⟩ : Ft)).map ftR).length < 100000000:=by simp only[List.length_map,List.length_append,List.length_take];omega
      simp (disch:=first|omega|(simp only[lenT];omega)) only[dT hltk,hce,inR,evSt,↓eA,eB,evU,seval]
      refine exD.intro (decX_A i (by omega) _) ?_
      simp (disch:=first|omega|(simp only[lenT];omega)) only[hadd,app_accL rfl hb0,wrap_i64,hk1,evSt,↓eA,eB,evU,seval]
      exact ⟨k + 1,by omega,by omega,by rw[hst];exact ⟨rfl,rfl⟩,by rw[hst]⟩
def ttF (p : Pls) (l : List Fl) (T : Int → Txt) : List Ft:=ttErrs p l T l.length
set_option maxHeartbeats 4000000 in
theorem rtt_A (p : Pls) (hp : POk p) (l : List Fl) (hl : l.length ≤ 50) (hx : ∀ x ∈ l,x.legs.length ≤ 1100000) (T : Int → Txt) (hP : ∀ x ∈ l,∀ d ∈ daysF x.p,badDay p x d = true → ∀ S,CallA Tryz.prog 104 [.int .i64 d] S fun r S'=>r = .str (T d) ∧ S' = S) (hT : ∀ d,(T d).length ≤ 100) (S : Store) :
    CallA Tryz.prog 15 [plV p,.sl 6 (l.map flR)] S fun r S'=>r = .sl 2 ((ttF p l T).map ftR) ∧ S' = S:=by
  refine CallA.withNeat Tryz.func15 c515 fun hn=>?_
  refine CallA.fin Tryz.func15 c515 (Nat.le_of_ble_eq_true rfl) fun σ hσ=>?_
  simp (disch:=first|omega|(simp only[lenT];omega)) only[a515,plV,evSt,↓eA,eB,evU,seval]
  refine loopA (ι:=Nat) (fun i=>[(2,.cptr [.sl 5 (p.1.map aptR),.sl 3 (p.2.map dstR)]),(1,.sl 6 (l.map flR)),(5,accV S.length ((ttErrs p l T i).map ftR)),(6,.int .i64 (i : Nat))]) (fun i=>S ++ accT 78 2 ((ttErrs p l T i).map ftR)) (fun i=>i ≤ l.length) (fun i=>l.length - i) 0 (Nat.zero_le _) ?_ (by simp [ttErrs,accT]) ?_
  · simp only[ttErrs,List.map_nil,accV_nil,↓eA,eB,evU,seval]
    try rfl
  intro i hi
  have htl:=ttErrs_len p l T i
  cases hc : l[i]? with
  | none =>
    have hge:=List.getElem?_eq_none_iff.1 hc
    have hlt : ¬ ((i : Int) < l.length):=by omega
    have hil : i = l.length:=by omega
    simp (disch:=first|omega|(simp only[lenT];omega)) only[dF hlt,evSt,↓eA,eB,evU,seval]
    refine ⟨_,S,hn.fgt _,frz_acc (ftR_imm _),Nat.le_refl _,?_,rfl⟩
    rw[hil]
    rfl
  | some x =>
    have hlt':=(List.getElem?_eq_some_iff.1 hc).1
    have hlt : ((i : Int) < l.length):=by omega
    have hi1 : (i : Int) + 1 = ((i + 1 : Nat) : Int):=by omega
    have hxm:=List.mem_of_getElem? hc
    have hg:=fun S=>rflight_A p hp x (hx x hxm) T (hP x hxm) hT S
    simp only[plV,flR] at hg
    have hat:=flErr_at p x hT
    have hel:=flErr_len p x T
    have hdl:=decB_len i
    have hst : ttErrs p l T (i + 1) = ttErrs p l T i ++ ((flErr p x T).map (fun f=>(⟨f.err,txFl ++ decB i ++ [32] ++ f.at_⟩ : Ft)) ++ if (l.take i).any (fun y=>meetsF y x) then [⟨6,txFl ++ decB i⟩] else []):=by rw[ttErrs,hc]
    generalize flErr p x T = es at hg hat hel hst
    have hadd : binV .add (.str [102,108,105,103,104,116,32]) (.str (decB i)) = some (.str (txFl ++ decB i)):=bs_add (by simp only[List.length_cons,List.length_nil];unfold maxLen;omega)
    have hfl7 : txFl.length = 7:=rfl
    have hadd2 : binV .add (.str (txFl ++ decB i)) (.str [32]) = some (.str (txFl ++ decB i ++ [32])):=bs_add (by simp only[List.length_append,List.length_cons,List.length_nil];unfold maxLen;omega)
    simp (disch:=first|omega|(simp only[lenT];omega)) only[dT hlt,evSt,↓eA,eB,evU,seval]
    refine (decimal_A i _ (by omega)).then ?_
    simp (disch:=first|omega|(simp only[lenT];omega)) only[hadd,hc,flR,evSt,↓eA,eB,evU,seval]
    refine (hg _).then ?_
    simp (disch:=first|omega|(simp only[lenT];omega)) only[evSt,↓eA,eB,evU,seval]
    refine loopA (ι:=Nat) (fun k=>[(2,.cptr [.sl 5 (p.1.map aptR),.sl 3 (p.2.map dstR)]),(1,.sl 6 (l.map flR)),(5,accV S.length ((ttErrs p l T i ++ (es.take k).map fun f=>(⟨f.err,txFl ++ decB i ++ [32] ++ f.at_⟩ : Ft)).map ftR)),(6,.int .i64 (i : Nat)),(7,.str (txFl ++ decB i)),(8,.sl 2 (es.map ftR)),(9,.int .i64 (k : Nat))])
      (fun k=>S ++ accT 78 2 ((ttErrs p l T i ++ (es.take k).map fun f=>(⟨f.err,txFl ++ decB i ++ [32] ++ f.at_⟩ : Ft)).map ftR)) (fun k=>k ≤ es.length) (fun k=>es.length - k) 0 (Nat.zero_le _) ?_ (by simp) ?_
    · simp only[List.map_nil,List.append_nil,↓eA,eB,evU,seval]
      try rfl
    intro k hk
    cases hce : es[k]? with
    | some f =>
      have hltk':=(List.getElem?_eq_some_iff.1 hce).1
      have hltk : ((k : Int) < es.length):=by omega
      have hk1 : (k : Int) + 1 = ((k + 1 : Nat) : Int):=by omega
      have hfa:=hat f (List.mem_of_getElem? hce)
      have hadd3 : binV .add (.str (txFl ++ decB i ++ [32])) (.str f.at_) = some (.str (txFl ++ decB i ++ [32] ++ f.at_)):=bs_add (by simp only[List.length_append,List.length_cons,List.length_nil];unfold maxLen;omega)
      have hs2 : (ttErrs p l T i ++ (es.take (k + 1)).map fun f=>(⟨f.err,txFl ++ decB i ++ [32] ++ f.at_⟩ : Ft)).map ftR = (ttErrs p l T i ++ (es.take k).map fun f=>(⟨f.err,txFl ++ decB i ++ [32] ++ f.at_⟩ : Ft)).map ftR ++ [[.int .i64 f.err,.str (txFl ++ decB i ++ [32] ++ f.at_)]]:=by rw[take_at hce];simp [ftR]
      have hb0 : ((ttErrs p l T i ++ (es.take k).map fun f=>(⟨f.err,txFl ++ decB i ++ [32] ++ f.at_⟩ : Ft)).map ftR).length < 100000000:=by simp only[List.length_map,List.length_append,List.length_take];omega
      simp (disch:=first|omega|(simp only[lenT];omega)) only[dT hltk,hce,ftR,hadd2,hadd3,app_accL rfl hb0,wrap_i64,hk1,evSt,↓eA,eB,evU,seval]
      exact ⟨k + 1,by omega,by omega,by rw[hs2];exact ⟨rfl,rfl⟩,by rw[hs2]⟩
    | none =>
      have hge:=List.getElem?_eq_none_iff.1 hce
      have hltk : ¬ ((k : Int) < es.length):=by omega
      rw[List.take_of_length_le hge]
      have hb0 : ((ttErrs p l T i ++ es.map fun f=>(⟨f.err,txFl ++ decB i ++ [32] ++ f.at_⟩ : Ft)).map ftR).length < 100000000:=by simp only[List.length_map,List.length_append];omega
      rw[← List.append_assoc] at hst
      generalize (ttErrs p l T i ++ es.map fun f=>(⟨f.err,txFl ++ decB i ++ [32] ++ f.at_⟩ : Ft)) = gs at hst hb0
      simp (disch:=first|omega|(simp only[lenT];omega)) only[dF hltk,evSt,↓eA,eB,evU,seval]
      refine loopA (ι:=Nat) (fun k=>[(2,.cptr [.sl 5 (p.1.map aptR),.sl 3 (p.2.map dstR)]),(1,.sl 6 (l.map flR)),(5,accV S.length (gs.map ftR)),(6,.int .i64 (i : Nat)),(7,.str (txFl ++ decB i)),(10,.bool ((l.take k).any fun y=>meetsF y x)),(11,.int .i64 (k : Nat))])
        (fun k=>S ++ accT 78 2 (gs.map ftR)) (fun k=>k ≤ i) (fun k=>i - k) 0 (Nat.zero_le _) ?_ rfl ?_
      · simp only[List.any_nil,↓eA,eB,evU,seval]
        try rfl
      intro m hm
      by_cases hmi : m < i
      · have hltm : (m : Int) < i:=by omega
        have hm1 : (m : Int) + 1 = ((m + 1 : Nat) : Int):=by omega
        obtain ⟨y,hy⟩ : ∃ y,l[m]? = some y:=⟨_,List.getElem?_eq_getElem (by omega)⟩
        have hnx : ((l.take (m + 1)).any fun y=>meetsF y x) = (((l.take m).any fun y=>meetsF y x) || meetsF y x):=by rw[take_at hy,List.any_append];simp
        have hmt:=fun S=>rmeets_A y x S
        simp only[flR] at hmt
        cases ha : (l.take m).any fun y=>meetsF y x with
        | true =>
          rw[ha,Bool.true_or] at hnx
          simp (disch:=first|omega|(simp only[lenT];omega)) only[dT hltm,hy,hc,wrap_i64,hm1,flR,evSt,↓eA,eB,evU,seval]
          exact ⟨m + 1,by omega,by omega,by rw[hnx];first | done | exact ⟨rfl,rfl⟩,rfl⟩
        | false =>
          rw[ha,Bool.false_or] at hnx
          simp (disch:=first|omega|(simp only[lenT];omega)) only[dT hltm,hy,hc,flR,evSt,↓eA,eB,evU,seval]
          refine (hmt _).then ?_
          simp (disch:=first|omega|(simp only[lenT];omega)) only[wrap_i64,hm1,evSt,↓eA,eB,evU,seval]
          exact ⟨m + 1,by omega,by omega,by rw[hnx];first | done | exact ⟨rfl,rfl⟩,rfl⟩
      · have hltm : ¬ (m : Int) < i:=by omega
        have hme : m = i:=by omega
        subst hme
        cases ha : (l.take m).any fun y=>meetsF y x with
        | true =>
          rw[ha,if_pos rfl] at hst
          simp (disch:=first|omega|(simp only[lenT];omega)) only[dF hltm,app_accL rfl hb0,wrap_i64,hi1,evSt,↓eA,eB,evU,seval]
          exact ⟨m + 1,by omega,by omega,by rw[hst,List.map_append];exact ⟨rfl,rfl⟩,by rw[hst,List.map_append];rfl⟩
        | false =>
          rw[ha] at hst
          simp only[Bool.false_eq_true,if_false,List.append_nil] at hst
          simp (disch:=first|omega|(simp only[lenT];omega)) only[dF hltm,wrap_i64,hi1,evSt,↓eA,eB,evU,seval]
          exact ⟨m + 1,by omega,by omega,by rw[hst];exact ⟨rfl,rfl⟩,by rw[hst]⟩
def rT (d : Int) : Txt:=prtF d.toNat
theorem rtt0_A (p : Pls) (hp : POk p) (l : List Fl) (hl : l.length ≤ 50) (hx : ∀ x ∈ l,x.legs.length ≤ 1100000) (S : Store) :
    CallA Tryz.prog 15 [plV p,.sl 6 (l.map flR)] S fun r S'=>r = .sl 2 ((ttF p l rT).map ftR) ∧ S' = S:=by
  refine rtt_A p hp l hl hx rT (fun x _ d hd _ S=>?_) (fun d=>by rw[rT,prtF_len];omega) S
  have h:=days_has hd
  unfold hasF at h
  rw[Bool.and_eq_true,decide_eq_true_eq] at h
  obtain ⟨⟨h1,h2,h3⟩,_⟩:=h
  have hq:=pd_ok h1
  have:=rprint_A d.toNat (by omega) S
  rwa [show ((d.toNat : Nat) : Int) = d by omega] at this
end Go.Proofs.YtiihkfjbllpiaaaGreatDoor
