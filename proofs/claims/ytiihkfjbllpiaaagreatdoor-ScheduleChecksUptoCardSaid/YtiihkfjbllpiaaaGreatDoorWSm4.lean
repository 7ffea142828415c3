/- Schedule: two flights that meet, segments that are operated, the chapter's examples. -/
import Derived.Test.YtiihkfjbllpiaaaGreatDoorWScdC
import Derived.Test.YtiihkfjbllpiaaaGreatDoorWSmV
namespace Go.Proofs.YtiihkfjbllpiaaaGreatDoor
open Go Go.AL
set_option linter.unusedSectionVars false
variable [Go.AL.Mode] [Go.AL.LooseM]
set_option linter.unusedSimpArgs false
set_option linter.unusedVariables false
theorem meets1_A (g f : Fl) (S : Store) : CallA Tryz.prog 48 [.agg (flR g),.cptr (flR f)] S fun r S'=>r = .bool (meetsF g f) ∧ S' = S:=by
  refine CallA.withNeat Tryz.func48 c548 fun hn=>?_
  refine CallA.fin Tryz.func48 c548 (Nat.le_of_ble_eq_true rfl) fun σ hσ=>?_
  have hm:=fun S=>meet_A g.p f.p S
  simp only[pdR] at hm
  unfold meetsF
  cases d1 : decide (g.c = f.c)<;>cases d2 : decide (g.n = f.n)<;>simp (disch:=first|omega|(simp only[lenT];omega)) only[a548,flR,d1,d2,Bool.true_and,Bool.false_and,Bool.and_false,evSt,↓eA,eB,evU,seval]
  all_goals try exact ⟨_,S,hn.self,.imm rfl,Nat.le_refl _,rfl,rfl⟩
  refine (hm _).mono ?_
  rintro _ S2 ⟨u,v,w,rfl,hS2⟩
  rw[hS2]
  simp (disch:=first|omega|(simp only[lenT];omega)) only[evSt,↓eA,eB,evU,seval]
  exact ⟨_,S,hn.fgt _,.imm rfl,Nat.le_refl _,rfl,rfl⟩
theorem oprtd_A (p : Pls) (hp : POk p) (l : List Fl) (hl : FOk l) (s : Sg) (S : Store) : CallA Tryz.prog 26 [plV p,.sl 6 (l.map flR),.agg (sgR s)] S fun r S'=>r = .bool (oprtd p l s) ∧ S' = S:=by
  refine CallA.withNeat Tryz.func26 c526 fun hn=>?_
  refine CallA.fin Tryz.func26 c526 (Nat.le_of_ble_eq_true rfl) fun σ hσ=>?_
  have hs:=fun S=>seg_A p hp l hl s.c s.n s.day s.f s.t S
  unfold oprtd
  generalize segF p l s.c s.n s.day s.f s.t = z at hs
  obtain ⟨x,e⟩:=z
  have hB : decide (x = s) = (decide (x.c = s.c) && (decide (x.n = s.n) && (decide (x.day = s.day) && (decide (x.f = s.f) && (decide (x.t = s.t) && (decide (x.dep = s.dep) && decide (x.arr = s.arr))))))):=by
    cases x
    cases s
    rw[Bool.eq_iff_iff]
    simp only[Sg.mk.injEq,Bool.and_eq_true,decide_eq_true_eq]
  simp only
  rw[hB]
  simp only[plV,sgR] at hs
  simp (disch:=first|omega|(simp only[lenT];omega)) only[a526,plV,sgR,evSt,↓eA,eB,evU,seval]
  refine (hs _).then ?_
  cases d1 : decide (e = 0)<;>simp (disch:=first|omega|(simp only[lenT];omega)) only[d1,Bool.true_and,Bool.false_and,evSt,↓eA,eB,evU,seval]
  all_goals exact ⟨_,S,hn.fgt _,.imm rfl,Nat.le_refl _,rfl,rfl⟩
def x0 : Fl:=⟨[66,65],117,⟨9497,9499,127⟩,[⟨[76,72,82],[74,70,75],500,700,[55,55,55]⟩]⟩
def q0 : Pls:=([⟨[76,72,82],[76,79,78],[71,66],0,[]⟩,⟨[74,70,75],[78,89,67],[85,83],-300,[]⟩],[])
theorem places8_A (S : Store) : CallA Tryz.prog 53 [] S fun r S'=>r = plV q0 ∧ S' = S:=by
  have h : CallA Tryz.prog 53 [] S fun r S'=>r = .agg [.sl 5 [[.str [76,72,82],.str [76,79,78],.str [71,66],.int .i64 0,.nilSl],[.str [74,70,75],.str [78,89,67],.str [85,83],.int .i64 (-300),.nilSl]],.nilSl] ∧ S' = S:=by
    refine CallA.withNeat Tryz.func53 c553 fun hn=>?_
    refine CallA.fin Tryz.func53 c553 (Nat.le_of_ble_eq_true rfl) fun σ hσ=>?_
    simp (disch:=first|omega|(simp only[lenT];omega)) only[a553,evSt,↓eA,eB,evU,seval]
    exact ⟨_,S,hn.fgt _,.imm rfl,Nat.le_refl _,rfl,rfl⟩
  exact h.wkR fun r S' ⟨hr,hS⟩=>⟨plV q0,by rw[hr];exact Wk.aggL ⟨Wk.slL ⟨⟨.refl _,.refl _,.refl _,.refl _,.nil 2,trivial⟩,⟨.refl _,.refl _,.refl _,.refl _,.nil 2,trivial⟩,trivial⟩,.nil 3,trivial⟩,rfl,hS⟩
theorem first8_A (S : Store) : CallA Tryz.prog 54 [] S fun r S'=>r = .agg (flR x0) ∧ S' = S:=by
  refine CallA.withNeat Tryz.func54 c554 fun hn=>?_
  refine CallA.fin Tryz.func54 c554 (Nat.le_of_ble_eq_true rfl) fun σ hσ=>?_
  simp (disch:=first|omega|(simp only[lenT];omega)) only[a554,evSt,↓eA,eB,evU,seval]
  exact ⟨_,S,hn.fgt _,.imm rfl,Nat.le_refl _,rfl,rfl⟩
end Go.Proofs.YtiihkfjbllpiaaaGreatDoor
/- Schedule: legs compared;the days on which a flight differs. -/
namespace Go.Proofs.YtiihkfjbllpiaaaGreatDoor
open Go Go.AL
set_option linter.unusedSectionVars false
variable [Go.AL.Mode] [Go.AL.LooseM]
set_option linter.unusedSimpArgs false
set_option linter.unusedVariables false
theorem eqLg_A (a b : List Lg) (ha : a.length ≤ 100000000) (S : Store) : CallA Tryz.prog 106 [.sl 5 (a.map lgR),.sl 5 (b.map lgR)] S fun r S'=>r = .bool (decide (a = b)) ∧ S' = S:=by
  refine CallA.keep Tryz.func106 c606 (Nat.le_of_ble_eq_true rfl) fun σ hσ=>?_
  by_cases hl : a.length = b.length
  case neg =>
    have hl' : decide ((a.length : Int) = b.length) = false:=decide_eq_false (by omega)
    have hn : decide (a = b) = false:=decide_eq_false (fun h=>hl (by rw[h]))
    simp (disch:=first|omega|(simp only[lenT];omega)) only[a606,hl',hn,evSt,↓eA,eB,evU,seval]
  have hl' : decide ((a.length : Int) = b.length) = true:=decide_eq_true (by omega)
  simp (disch:=first|omega|(simp only[lenT];omega)) only[a606,hl',evSt,↓eA,eB,evU,seval]
  refine loopA (ι:=Nat) (fun k=>[(0,.sl 5 (a.map lgR)),(1,.sl 5 (b.map lgR)),(11,.sl 5 (a.map lgR)),(12,.int .i64 a.length),(13,.int .i64 (k : Nat))]) (fun _=>S) (fun k=>k ≤ a.length ∧ a.take k = b.take k) (fun k=>a.length - k) 0 ⟨Nat.zero_le _,rfl⟩ ?_ rfl ?_
  · simp only[↓eA,eB,evU,seval]
  rintro k ⟨hk,he⟩
  cases hc : a[k]? with
  | none =>
    have hge:=List.getElem?_eq_none_iff.1 hc
    have hlt : ¬ ((k : Int) < a.length):=by omega
    have hkl : k = a.length:=by omega
    subst hkl
    have hab : decide (a = b) = true:=decide_eq_true (take_all hl he)
    simp (disch:=first|omega|(simp only[lenT];omega)) only[dF hlt,hab,evSt,↓eA,eB,evU,seval]
  | some x =>
    have hlt':=(List.getElem?_eq_some_iff.1 hc).1
    have hlt : ((k : Int) < a.length):=by omega
    have hk1 : (k : Int) + 1 = ((k + 1 : Nat) : Int):=by omega
    obtain ⟨y,hy⟩ : ∃ y,b[k]? = some y:=⟨_,List.getElem?_eq_getElem (by omega)⟩
    by_cases hxy : x = y
    · subst hxy
      simp (disch:=first|omega|(simp only[lenT];omega)) only[dT hlt,hc,hy,lgR,eq_self,decide_true,Bool.and_self,wrap_i64,hk1,evSt,↓eA,eB,evU,seval]
      exact ⟨k + 1,⟨by omega,by rw[take_at hc,take_at hy,he]⟩,by omega,rfl⟩
    · have hn : decide (a = b) = false:=decide_eq_false (take_ne hc hy hxy)
      have hB : (decide (x.f = y.f) && (decide (x.t = y.t) && (decide (x.dep = y.dep) && (decide (x.arr = y.arr) && (decide (x.eq = y.eq)))))) = false:=by
        cases x
        cases y
        simp only[Lg.mk.injEq] at hxy
        simp only[Bool.eq_false_iff,ne_eq,Bool.and_eq_true,decide_eq_true_eq]
        intro h
        exact hxy (by simp [*])
      simp (disch:=first|omega|(simp only[lenT];omega)) only[dT hlt,hc,hy,hn,lgR,evSt,↓eA,eB,evU,seval]
      simp only[hB,↓eA,eB,evU,seval]
def legsO (o : Option Fl) : List Lg:=match o with
  | some x=>x.legs
  | none=>[]
def difD (a b : List Fl) (c : Txt) (n d : Int) : Bool:=decide ((onL a c n d).isSome ≠ (onL b c n d).isSome) || decide (legsO (onL a c n d) ≠ legsO (onL b c n d))
def difF (a b : List Fl) (c : Txt) (n : Int) (q : Pd) : List Int:=(daysF q).filter (difD a b c n)
theorem in_frz {S L : Store} {v n : Nat} {l : List Int} (hn : n = l.length) : Frz (S ++ ⟨v,some (.arr 3 1 (l.map inR))⟩ :: L) S (.msl S.length v 0 n) (.sl 1 (l.map inR)) :=
  .sl (t:=3) (Nat.le_refl _) (by rw[ob_app0,ob_head]) (by rw[List.length_map,hn]) (inR_imm l)
theorem nil2_args {ρ : AL.Place} {S : Store} {w : World} {us : Array Value} (h : VRs ρ S w [.nilSl,.nilSl] us) : VRs ρ S w [.sl 5 (([] : List Lg).map lgR),.sl 5 (([] : List Lg).map lgR)] us :=
  ⟨h.1,fun j v hj=>match j,hj with
    | 0,hj=>by cases hj;obtain ⟨u,a,b⟩:=h.2 0 _ rfl;cases b;exact ⟨_,a,.slNil⟩
    | 1,hj=>by cases hj;obtain ⟨u,a,b⟩:=h.2 1 _ rfl;cases b;exact ⟨_,a,.slNil⟩⟩
theorem eq_nil (S : Store) : CallA Tryz.prog 106 [.nilSl,.nilSl] S fun r S'=>r = .bool true ∧ S' = S:=by
  have h:=eqLg_A [] [] (by simp) S
  rw[dT rfl] at h
  exact of_args h fun _ _ _ h=>nil2_args h
theorem dif_step {a b : List Fl} {c : Txt} {n : Int} {L : List Int} {k : Nat} {d : Int} (h : L[k]? = some d) : (L.take (k + 1)).filter (difD a b c n) = (L.take k).filter (difD a b c n) ++ if difD a b c n d then [d] else []:=by
  rw[take_at h,List.filter_append]
  cases h2 : difD a b c n d<;>simp [h2]
set_option maxHeartbeats 4000000 in
theorem differ_A (a b : List Fl) (ha : FOk a) (hb : FOk b) (c : Txt) (n : Int) (q : Pd) (S : Store) : CallA Tryz.prog 55 [.sl 6 (a.map flR),.sl 6 (b.map flR),.str c,.int .i64 n,.agg (pdR q)] S fun r S'=>r = .sl 1 ((difF a b c n q).map inR) ∧ S' = S:=by
  refine CallA.withNeat Tryz.func55 c555 fun hn=>?_
  refine CallA.fin Tryz.func55 c555 (Nat.le_of_ble_eq_true rfl) fun σ hσ=>?_
  have hdy:=fun S=>days_A q S
  have hdl:=daysF_len q
  have ha1:=ha.h1
  have hb1:=hb.h1
  simp only[pdR] at hdy
  unfold difF
  generalize daysF q = L at hdy hdl
  simp (disch:=first|omega|(simp only[lenT];omega)) only[a555,pdR,evSt,↓eA,eB,evU,seval]
  refine (hdy _).then ?_
  simp (disch:=first|omega|(simp only[lenT];omega)) only[evSt,↓eA,eB,evU,seval]
  refine LoopA.ghost 11 0 3 1 rfl ?_
  refine loopF (ι:=Nat × Nat) (fun i=>[(0,.sl 6 (a.map flR)),(1,.sl 6 (b.map flR)),(2,.str c),(3,.int .i64 n),(11,.msl S.length i.2 0 ((L.take i.1).filter (difD a b c n)).length),(19,.sl 1 (L.map inR)),(20,.int .i64 L.length),(21,.int .i64 (i.1 : Nat))])
    (fun i=>S ++ [⟨i.2,some (.arr 3 1 (((L.take i.1).filter (difD a b c n)).map inR))⟩]) (fun i=>i.1 ≤ L.length) (fun i=>L.length - i.1) (fun i hi=>by rw[hσ];simp) (0,0) (Nat.zero_le _) (.inl ⟨?_,?_⟩) ?_
  · simp [sub,Env.get]
  · simp
  rintro ⟨k,v⟩ hk
  simp only at hk ⊢
  cases hc : L[k]? with
  | none =>
    have hge:=List.getElem?_eq_none_iff.1 hc
    have hlt : ¬ ((k : Int) < L.length):=by omega
    rw[List.take_of_length_le hge]
    simp (disch:=first|omega|(simp only[lenT];omega)) only[dF hlt,evSt,↓eA,eB,evU,seval]
    exact ⟨_,S,hn.fgt _,in_frz rfl,Nat.le_refl _,rfl,rfl⟩
  | some d =>
    have hlt':=(List.getElem?_eq_some_iff.1 hc).1
    have hlt : ((k : Int) < L.length):=by omega
    have hk1 : (k : Int) + 1 = ((k + 1 : Nat) : Int):=by omega
    have ho1:=fun S=>onC_A a c n d (by omega) S
    have ho2:=fun S=>onC_A b c n d (by omega) S
    have hfl:=List.length_filter_le (difD a b c n) (L.take k)
    rw[List.length_take] at hfl
    have him : ∀ r ∈ ((L.take k).filter (difD a b c n)).map inR ++ [d].map inR,r.length = 1 ∧ V.allImm r = true:=fun r hr=>by rw[← List.map_append] at hr;exact inR_imm _ r hr
    have q1 : ((false == false) : Bool) = true:=rfl
    have q2 : ((true == true) : Bool) = true:=rfl
    have q3 : ((true == false) : Bool) = false:=rfl
    have q4 : ((false == true) : Bool) = false:=rfl
    have hst:=dif_step (a:=a) (b:=b) (c:=c) (n:=n) hc
    cases h1 : onL a c n d<;>cases h2 : onL b c n d<;>rw[h1] at ho1<;>rw[h2] at ho2<;>simp (disch:=first|omega|(simp only[lenT];omega)) only[dT hlt,hc,inR,evSt,↓eA,eB,evU,seval]
    all_goals
      refine (ho1 _).then ?_
      simp (disch:=first|omega|(simp only[lenT];omega)) only[onR,noFl,flR,evSt,↓eA,eB,evU,seval]
      refine (ho2 _).then ?_
      simp (disch:=first|omega|(simp only[lenT];omega)) only[onR,noFl,flR,q1,q2,q3,q4,evSt,↓eA,eB,evU,seval]
    case none.none =>
      have hD : difD a b c n d = false:=by simp [difD,h1,h2,legsO]
      have hst2 : (L.take (k + 1)).filter (difD a b c n) = (L.take k).filter (difD a b c n):=by rw[hst,hD];simp
      refine (eq_nil _).then ?_
      simp (disch:=first|omega|(simp only[lenT];omega)) only[q3,wrap_i64,hk1,evSt,↓eA,eB,evU,seval]
      refine ⟨(k + 1,v),by simp only;omega,by simp only;omega,back_under ?_ ?_ ?_⟩
      · rw[hst2]
        exact hn.fgtL (L:=[_,_,_]) (L1:=[_]) ⟨rfl,⟨_,rfl,.imm (inR_imm _)⟩,trivial⟩
      · rw[hst2]
        simp only[↓eA,eB,evU,seval]
        try rfl
      · simp [V.under,V.allUnder]
    case some.some x y =>
      have hD0 : difD a b c n d = !decide (x.legs = y.legs):=by simp [difD,h1,h2,legsO]
      refine (eqLg_A x.legs y.legs (by have:=ha.h2 x (onL_mem h1);omega) _).then ?_
      cases hB : decide (x.legs = y.legs)<;>simp (disch:=first|omega|(simp only[lenT];omega)) only[q3,wrap_i64,hk1,evSt,↓eA,eB,evU,seval]
      · have hD : difD a b c n d = true:=by rw[hD0,hB];rfl
        have hst2 : (L.take (k + 1)).filter (difD a b c n) = (L.take k).filter (difD a b c n) ++ [d]:=by rw[hst,hD];rfl
        refine ⟨by unfold roomA;omega,(k + 1,v + 1),by simp only;omega,by simp only;omega,back_under ?_ ?_ ?_⟩
        · rw[hst2,List.map_append]
          exact hn.fgtL (L:=[_,_,_]) (L1:=[_]) ⟨rfl,⟨_,rfl,.imm him⟩,trivial⟩
        · rw[hst2,List.length_append]
          simp only[List.length_singleton,↓eA,eB,evU,seval]
          try rfl
        · simp [V.under,V.allUnder]
      · have hD : difD a b c n d = false:=by rw[hD0,hB];rfl
        have hst2 : (L.take (k + 1)).filter (difD a b c n) = (L.take k).filter (difD a b c n):=by rw[hst,hD];simp
        refine ⟨(k + 1,v),by simp only;omega,by simp only;omega,back_under ?_ ?_ ?_⟩
        · rw[hst2]
          exact hn.fgtL (L:=[_,_,_]) (L1:=[_]) ⟨rfl,⟨_,rfl,.imm (inR_imm _)⟩,trivial⟩
        · rw[hst2]
          simp only[↓eA,eB,evU,seval]
          try rfl
        · simp [V.under,V.allUnder]
    all_goals
      have hD : difD a b c n d = true:=by simp [difD,h1,h2,legsO]
      have hst2 : (L.take (k + 1)).filter (difD a b c n) = (L.take k).filter (difD a b c n) ++ [d]:=by rw[hst,hD];rfl
      simp (disch:=first|omega|(simp only[lenT];omega)) only[wrap_i64,hk1,evSt,↓eA,eB,evU,seval]
      refine ⟨by unfold roomA;omega,(k + 1,v + 1),by simp only;omega,by simp only;omega,back_under ?_ ?_ ?_⟩
      · rw[hst2,List.map_append]
        exact hn.fgtL (L:=[_,_,_]) (L1:=[_]) ⟨rfl,⟨_,rfl,.imm him⟩,trivial⟩
      · rw[hst2,List.length_append]
        simp only[List.length_singleton,↓eA,eB,evU,seval]
        try rfl
      · simp [V.under,V.allUnder]
end Go.Proofs.YtiihkfjbllpiaaaGreatDoor
/- Schedule: Check is what the reference's Check is. -/
namespace Go.Proofs.YtiihkfjbllpiaaaGreatDoor
open Go Go.AL
set_option linter.unusedSectionVars false
variable [Go.AL.Mode] [Go.AL.LooseM]
set_option linter.unusedSimpArgs false
set_option linter.unusedVariables false
theorem any_find {α : Type} (l : List α) (q : α → Bool) : l.any q = (l.find? q).isSome:=by
  induction l with
  | nil=>rfl
  | cons a l ih =>
    rw[List.any_cons,List.find?_cons,ih]
    cases q a<;>rfl
set_option maxHeartbeats 4000000 in
theorem check8_A (p : Pls) (hp : POk p) (l : List Fl) (hl : l.length ≤ 50) (hx : ∀ x ∈ l,x.legs.length ≤ 1100000) (T : Int → Txt) (hP : ∀ x ∈ l,∀ d ∈ daysF x.p,badDay p x d = true → ∀ S,CallA Tryz.prog 93 [.int .i64 d] S fun r S'=>r = .str (T d) ∧ S' = S) (hT : ∀ d,(T d).length ≤ 100) (S : Store) :
    CallA Tryz.prog 14 [plV p,.sl 6 (l.map flR)] S fun r S'=>r = .sl 2 ((ttF p l T).map ftR) ∧ S' = S:=by
  refine CallA.withNeat Tryz.func14 c514z fun hn=>?_
  refine CallA.fin Tryz.func14 c514z (Nat.le_of_ble_eq_true rfl) fun σ hσ=>?_
  simp (disch:=first|omega|(simp only[lenT];omega)) only[a514z,plV,evSt,↓eA,eB,evU,seval]
  refine LoopA.ghost 5 0 78 2 rfl ?_
  refine loopF (ι:=Nat × Nat) (fun i=>[(2,.cptr [.sl 5 (p.1.map aptR),.sl 3 (p.2.map dstR)]),(1,.sl 6 (l.map flR)),(5,.msl S.length i.2 0 (ttErrs p l T i.1).length),(13,.sl 6 (l.map flR)),(14,.int .i64 l.length),(15,.int .i64 (i.1 : Nat))])
    (fun i=>S ++ [⟨i.2,some (.arr 78 2 ((ttErrs p l T i.1).map ftR))⟩]) (fun i=>i.1 ≤ l.length) (fun i=>l.length - i.1) (fun i hi=>by rw[hσ];simp) (0,0) (Nat.zero_le _) (.inl ⟨?_,?_⟩) ?_
  · simp [ttErrs,sub,Env.get]
  · simp [ttErrs]
  rintro ⟨i,v⟩ hi
  simp only at hi ⊢
  have htl:=ttErrs_len p l T i
  cases hc : l[i]? with
  | none =>
    have hge:=List.getElem?_eq_none_iff.1 hc
    have hlt : ¬ ((i : Int) < l.length):=by omega
    have hil : i = l.length:=by omega
    subst hil
    simp (disch:=first|omega|(simp only[lenT];omega)) only[dF hlt,evSt,↓eA,eB,evU,seval]
    exact ⟨_,S,hn.fgt _,ft_frz rfl,Nat.le_refl _,rfl,rfl⟩
  | some x =>
    have hlt':=(List.getElem?_eq_some_iff.1 hc).1
    have hlt : ((i : Int) < l.length):=by omega
    have hi1 : (i : Int) + 1 = ((i + 1 : Nat) : Int):=by omega
    have hxm:=List.mem_of_getElem? hc
    have hg:=fun S=>flight_A p hp x (hx x hxm) T (hP x hxm) hT S
    have htw:=fun S=>firstF_A (l.take i) (fun y=>meetsF y x) 48 [.cptr (flR x)] (by simp;omega) (fun n=>by simp [V.under,V.allUnder]) (fun y S=>meets1_A y x S) S
    simp only[plV,flR] at hg htw
    have hat:=flErr_at p x hT
    have hel:=flErr_len p x T
    have hdl:=decB_len i
    have hst : ttErrs p l T (i + 1) = ttErrs p l T i ++ ((flErr p x T).map (fun f=>(⟨f.err,txFl ++ decB i ++ [32] ++ f.at_⟩ : Ft)) ++ if (l.take i).any (fun y=>meetsF y x) then [⟨6,txFl ++ decB i⟩] else []):=by rw[ttErrs,hc]
    rw[any_find,← List.append_assoc] at hst
    generalize hfi : (l.take i).find? (fun y=>meetsF y x) = o at htw hst
    generalize flErr p x T = es at hg hat hel hst
    generalize hrs : ttErrs p l T i = rs at htl hst ⊢
    have hadd : binV .add (.str [102,108,105,103,104,116,32]) (.str (decB i)) = some (.str (txFl ++ decB i)):=bs_add (by simp only[List.length_cons,List.length_nil];unfold maxLen;omega)
    have hfl7 : txFl.length = 7:=rfl
    have hadd2 : binV .add (.str (txFl ++ decB i)) (.str [32]) = some (.str (txFl ++ decB i ++ [32])):=bs_add (by simp only[List.length_append,List.length_cons,List.length_nil];unfold maxLen;omega)
    have himm:=ftR_imm (ttErrs p l T (i + 1))
    have hcd : (((i : Nat) : Int) ≤ (l.length : Nat)) = True:=eq_true (by omega)
    simp (disch:=first|omega|(simp only[lenT];omega)) only[dT hlt,hc,flR,evSt,↓eA,eB,evU,seval]
    refine (itoa_A i _ (by omega)).then ?_
    simp (disch:=first|omega|(simp only[lenT];omega)) only[hadd,flR,evSt,↓eA,eB,evU,seval]
    refine (hg _).then ?_
    simp (disch:=first|omega|(simp only[lenT];omega)) only[flR,evSt,↓eA,eB,evU,seval]
    refine loopF (ι:=Nat) (fun k=>[(2,.cptr [.sl 5 (p.1.map aptR),.sl 3 (p.2.map dstR)]),(1,.sl 6 (l.map flR)),(5,.msl S.length (v + k) 0 (rs.length + k)),(13,.sl 6 (l.map flR)),(14,.int .i64 l.length),(15,.int .i64 (i : Nat)),(6,.int .i64 (i : Nat)),(7,.cptr (flR x)),(8,.str (txFl ++ decB i)),(25,.sl 2 (es.map ftR)),(26,.int .i64 es.length),(27,.int .i64 (k : Nat))])
      (fun k=>S ++ [⟨v + k,some (.arr 78 2 ((rs ++ (es.take k).map fun f=>(⟨f.err,txFl ++ decB i ++ [32] ++ f.at_⟩ : Ft)).map ftR))⟩,⟨0,none⟩]) (fun k=>k ≤ es.length) (fun k=>es.length - k) (fun i hi=>by rw[hσ];simp) 0 (Nat.zero_le _) (.inl ⟨?_,?_⟩) ?_
    · simp only[Nat.add_zero,flR,↓eA,eB,evU,seval]
      try rfl
    · simp
    intro k hk
    cases hce : es[k]? with
    | some f =>
      have hltk':=(List.getElem?_eq_some_iff.1 hce).1
      have hltk : ((k : Int) < es.length):=by omega
      have hk1 : (k : Int) + 1 = ((k + 1 : Nat) : Int):=by omega
      have hfa:=hat f (List.mem_of_getElem? hce)
      have hadd3 : binV .add (.str (txFl ++ decB i ++ [32])) (.str f.at_) = some (.str (txFl ++ decB i ++ [32] ++ f.at_)):=bs_add (by simp only[List.length_append,List.length_cons,List.length_nil];unfold maxLen;omega)
      have hs2 : (rs ++ (es.take (k + 1)).map fun f=>(⟨f.err,txFl ++ decB i ++ [32] ++ f.at_⟩ : Ft)).map ftR = (rs ++ (es.take k).map fun f=>(⟨f.err,txFl ++ decB i ++ [32] ++ f.at_⟩ : Ft)).map ftR ++ [[.int .i64 f.err,.str (txFl ++ decB i ++ [32] ++ f.at_)]]:=by rw[take_at hce];simp [ftR]
      have him2:=ftR_imm (rs ++ (es.take (k + 1)).map fun f=>(⟨f.err,txFl ++ decB i ++ [32] ++ f.at_⟩ : Ft))
      rw[hs2] at him2
      simp (disch:=first|omega|(simp only[lenT];omega)) only[dT hltk,hce,ftR,hadd2,hadd3,wrap_i64,hk1,evSt,↓eA,eB,evU,seval]
      refine ⟨by simp only[List.length_append,List.length_map,List.length_take];omega,by unfold roomA;omega,k + 1,by omega,by omega,back_under ?_ ?_ (by simp [V.under,V.allUnder])⟩
      · rw[hs2]
        exact hn.fgtL (L:=[_,_,_]) (L1:=[_,_]) ⟨rfl,⟨_,rfl,.imm him2⟩,rfl,trivial,trivial⟩
      · simp only[↓eA,eB,evU,seval]
        try rfl
    | none =>
      have hge:=List.getElem?_eq_none_iff.1 hce
      have hltk : ¬ ((k : Int) < es.length):=by omega
      have hke : k = es.length:=by omega
      rw[List.take_of_length_le hge]
      simp (disch:=first|omega|(simp only[lenT];omega)) only[dF hltk,hcd,if_true,flR,evSt,↓eA,eB,evU,seval]
      refine (htw _).then ?_
      cases o with
      | none =>
        simp only[Option.isSome_none,Bool.false_eq_true,if_false,List.append_nil] at hst
        simp (disch:=first|omega|(simp only[lenT];omega)) only[onR,noFl,wrap_i64,hi1,evSt,↓eA,eB,evU,seval]
        refine ⟨(i + 1,v + k),by simp only;omega,by simp only;omega,back_under ?_ ?_ (by simp [V.under,V.allUnder])⟩
        · rw[← hst]
          exact hn.fgtL (L:=[_,_,_]) (L1:=[_]) ⟨rfl,⟨_,rfl,.imm himm⟩,trivial⟩
        · have hll : (ttErrs p l T (i + 1)).length = rs.length + k:=by rw[hst,hke];simp
          simp only[hll,↓eA,eB,evU,seval]
          try rfl
      | some y =>
        simp only[Option.isSome_some,if_true] at hst
        have hst2 : (rs ++ es.map fun f=>(⟨f.err,txFl ++ decB i ++ [32] ++ f.at_⟩ : Ft)).map ftR ++ [[.int .i64 6,.str (txFl ++ decB i)]] = (ttErrs p l T (i + 1)).map ftR:=by rw[hst];simp [ftR]
        simp (disch:=first|omega|(simp only[lenT];omega)) only[onR,flR,wrap_i64,hi1,evSt,↓eA,eB,evU,seval]
        refine ⟨by simp only[List.length_append,List.length_map];omega,by unfold roomA;omega,(i + 1,v + k + 1),by simp only;omega,by simp only;omega,back_under ?_ ?_ (by simp [V.under,V.allUnder])⟩
        · rw[hst2]
          exact hn.fgtL (L:=[_,_,_]) (L1:=[_]) ⟨rfl,⟨_,rfl,.imm himm⟩,trivial⟩
        · have hll : (ttErrs p l T (i + 1)).length = rs.length + k + 1:=by rw[hst,hke];simp;omega
          simp only[hll,↓eA,eB,evU,seval]
          try rfl
end Go.Proofs.YtiihkfjbllpiaaaGreatDoor
