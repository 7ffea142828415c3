/- Schedule: lists compared by the reference. -/
import Derived.Test.YtiihkfjbllpiaaaGreatDoorWScdC
import Derived.Test.YtiihkfjbllpiaaaGreatDoorWSchK
import Derived.Test.YtiihkfjbllpiaaaGreatDoorWSchF
namespace Go.Proofs.YtiihkfjbllpiaaaGreatDoor
open Go Go.AL
set_option linter.unusedSectionVars false
variable [Go.AL.Mode] [Go.AL.LooseM]
set_option linter.unusedSimpArgs false
set_option linter.unusedVariables false
theorem rsameFt_A (a b : List Ft) (ha : a.length ≤ 100000000) (S : Store) : CallA Tryz.prog 13 [.sl 2 (a.map ftR),.sl 2 (b.map ftR)] S fun r S'=>r = .bool (decide (a = b)) ∧ S' = S:=by
  refine CallA.keep Tryz.func13 c513 (Nat.le_of_ble_eq_true rfl) fun σ hσ=>?_
  by_cases hl : a.length = b.length
  case neg =>
    have hl' : decide ((a.length : Int) = b.length) = false:=decide_eq_false (by omega)
    have hn : decide (a = b) = false:=decide_eq_false (fun h=>hl (by rw[h]))
    simp (disch:=first|omega|(simp only[lenT];omega)) only[a513,hl',hn,evSt,↓eA,eB,evU,seval]
  have hl' : decide ((a.length : Int) = b.length) = true:=decide_eq_true (by omega)
  simp (disch:=first|omega|(simp only[lenT];omega)) only[a513,hl',evSt,↓eA,eB,evU,seval]
  refine loopA (ι:=Nat) (fun k=>[(0,.sl 2 (a.map ftR)),(1,.sl 2 (b.map ftR)),(5,.int .i64 (k : Nat))]) (fun _=>S) (fun k=>k ≤ a.length ∧ a.take k = b.take k) (fun k=>a.length - k) 0 ⟨Nat.zero_le _,rfl⟩ ?_ rfl ?_
  · simp only[↓eA,eB,evU,seval]
  rintro k ⟨hk,he⟩
  cases hc : a[k]? with
  | none =>
    have hge:=List.getElem?_eq_none_iff.1 hc
    have hlt : ¬ ((k : Int) < a.length):=by omega
    have hkl : k = a.length:=by omega
    subst hkl
    have hab : decide (a = b) = true:=decide_eq_true (take_all hl he)
    simp (disch:=first|omega|(simp only[lenT];omega)) only[dF hlt,hab,evSt,↓eA,eB,evU,seval]
  | some x =>
    have hlt':=(List.getElem?_eq_some_iff.1 hc).1
    have hlt : ((k : Int) < a.length):=by omega
    have hk1 : (k : Int) + 1 = ((k + 1 : Nat) : Int):=by omega
    obtain ⟨y,hy⟩ : ∃ y,b[k]? = some y:=⟨_,List.getElem?_eq_getElem (by omega)⟩
    by_cases hxy : x = y
    · subst hxy
      simp (disch:=first|omega|(simp only[lenT];omega)) only[dT hlt,hc,hy,ftR,eq_self,decide_true,Bool.and_self,wrap_i64,hk1,evSt,↓eA,eB,evU,seval]
      exact ⟨k + 1,⟨by omega,by rw[take_at hc,take_at hy,he]⟩,by omega,rfl⟩
    · have hn : decide (a = b) = false:=decide_eq_false (take_ne hc hy hxy)
      have hB : (decide (x.err = y.err) && (decide (x.at_ = y.at_))) = false:=by
        cases x
        cases y
        simp only[Ft.mk.injEq] at hxy
        simp only[Bool.eq_false_iff,ne_eq,Bool.and_eq_true,decide_eq_true_eq]
        intro h
        exact hxy (by simp [*])
      simp (disch:=first|omega|(simp only[lenT];omega)) only[dT hlt,hc,hy,hn,ftR,evSt,↓eA,eB,evU,seval]
      simp only[hB,↓eA,eB,evU,seval]
theorem rsameDt_A (a b : List Dt) (ha : a.length ≤ 100000000) (S : Store) : CallA Tryz.prog 24 [.sl 8 (a.map dtR),.sl 8 (b.map dtR)] S fun r S'=>r = .bool (decide (a = b)) ∧ S' = S:=by
  refine CallA.keep Tryz.func24 c524 (Nat.le_of_ble_eq_true rfl) fun σ hσ=>?_
  by_cases hl : a.length = b.length
  case neg =>
    have hl' : decide ((a.length : Int) = b.length) = false:=decide_eq_false (by omega)
    have hn : decide (a = b) = false:=decide_eq_false (fun h=>hl (by rw[h]))
    simp (disch:=first|omega|(simp only[lenT];omega)) only[a524,hl',hn,evSt,↓eA,eB,evU,seval]
  have hl' : decide ((a.length : Int) = b.length) = true:=decide_eq_true (by omega)
  simp (disch:=first|omega|(simp only[lenT];omega)) only[a524,hl',evSt,↓eA,eB,evU,seval]
  refine loopA (ι:=Nat) (fun k=>[(0,.sl 8 (a.map dtR)),(1,.sl 8 (b.map dtR)),(5,.int .i64 (k : Nat))]) (fun _=>S) (fun k=>k ≤ a.length ∧ a.take k = b.take k) (fun k=>a.length - k) 0 ⟨Nat.zero_le _,rfl⟩ ?_ rfl ?_
  · simp only[↓eA,eB,evU,seval]
  rintro k ⟨hk,he⟩
  cases hc : a[k]? with
  | none =>
    have hge:=List.getElem?_eq_none_iff.1 hc
    have hlt : ¬ ((k : Int) < a.length):=by omega
    have hkl : k = a.length:=by omega
    subst hkl
    have hab : decide (a = b) = true:=decide_eq_true (take_all hl he)
    simp (disch:=first|omega|(simp only[lenT];omega)) only[dF hlt,hab,evSt,↓eA,eB,evU,seval]
  | some x =>
    have hlt':=(List.getElem?_eq_some_iff.1 hc).1
    have hlt : ((k : Int) < a.length):=by omega
    have hk1 : (k : Int) + 1 = ((k + 1 : Nat) : Int):=by omega
    obtain ⟨y,hy⟩ : ∃ y,b[k]? = some y:=⟨_,List.getElem?_eq_getElem (by omega)⟩
    by_cases hxy : x = y
    · subst hxy
      simp (disch:=first|omega|(simp only[lenT];omega)) only[dT hlt,hc,hy,dtR,eq_self,decide_true,Bool.and_self,wrap_i64,hk1,evSt,↓eA,eB,evU,seval]
      exact ⟨k + 1,⟨by omega,by rw[take_at hc,take_at hy,he]⟩,by omega,rfl⟩
    · have hn : decide (a = b) = false:=decide_eq_false (take_ne hc hy hxy)
      have hB : (decide (x.c = y.c) && (decide (x.n = y.n) && (decide (x.day = y.day) && (decide (x.f = y.f) && (decide (x.t = y.t) && (decide (x.dep = y.dep) && (decide (x.arr = y.arr) && (decide (x.eq = y.eq))))))))) = false:=by
        cases x
        cases y
        simp only[Dt.mk.injEq] at hxy
        simp only[Bool.eq_false_iff,ne_eq,Bool.and_eq_true,decide_eq_true_eq]
        intro h
        exact hxy (by simp [*])
      simp (disch:=first|omega|(simp only[lenT];omega)) only[dT hlt,hc,hy,hn,dtR,evSt,↓eA,eB,evU,seval]
      simp only[hB,↓eA,eB,evU,seval]
theorem rsameLg_A (a b : List Lg) (ha : a.length ≤ 100000000) (S : Store) : CallA Tryz.prog 68 [.sl 5 (a.map lgR),.sl 5 (b.map lgR)] S fun r S'=>r = .bool (decide (a = b)) ∧ S' = S:=by
  refine CallA.keep Tryz.func68 c568 (Nat.le_of_ble_eq_true rfl) fun σ hσ=>?_
  by_cases hl : a.length = b.length
  case neg =>
    have hl' : decide ((a.length : Int) = b.length) = false:=decide_eq_false (by omega)
    have hn : decide (a = b) = false:=decide_eq_false (fun h=>hl (by rw[h]))
    simp (disch:=first|omega|(simp only[lenT];omega)) only[a568,hl',hn,evSt,↓eA,eB,evU,seval]
  have hl' : decide ((a.length : Int) = b.length) = true:=decide_eq_true (by omega)
  simp (disch:=first|omega|(simp only[lenT];omega)) only[a568,hl',evSt,↓eA,eB,evU,seval]
  refine loopA (ι:=Nat) (fun k=>[(0,.sl 5 (a.map lgR)),(1,.sl 5 (b.map lgR)),(5,.int .i64 (k : Nat))]) (fun _=>S) (fun k=>k ≤ a.length ∧ a.take k = b.take k) (fun k=>a.length - k) 0 ⟨Nat.zero_le _,rfl⟩ ?_ rfl ?_
  · simp only[↓eA,eB,evU,seval]
  rintro k ⟨hk,he⟩
  cases hc : a[k]? with
  | none =>
    have hge:=List.getElem?_eq_none_iff.1 hc
    have hlt : ¬ ((k : Int) < a.length):=by omega
    have hkl : k = a.length:=by omega
    subst hkl
    have hab : decide (a = b) = true:=decide_eq_true (take_all hl he)
    simp (disch:=first|omega|(simp only[lenT];omega)) only[dF hlt,hab,evSt,↓eA,eB,evU,seval]
  | some x =>
    have hlt':=(List.getElem?_eq_some_iff.1 hc).1
    have hlt : ((k : Int) < a.length):=by omega
    have hk1 : (k : Int) + 1 = ((k + 1 : Nat) : Int):=by omega
    obtain ⟨y,hy⟩ : ∃ y,b[k]? = some y:=⟨_,List.getElem?_eq_getElem (by omega)⟩
    by_cases hxy : x = y
    · subst hxy
      simp (disch:=first|omega|(simp only[lenT];omega)) only[dT hlt,hc,hy,lgR,eq_self,decide_true,Bool.and_self,wrap_i64,hk1,evSt,↓eA,eB,evU,seval]
      exact ⟨k + 1,⟨by omega,by rw[take_at hc,take_at hy,he]⟩,by omega,rfl⟩
    · have hn : decide (a = b) = false:=decide_eq_false (take_ne hc hy hxy)
      have hB : (decide (x.f = y.f) && (decide (x.t = y.t) && (decide (x.dep = y.dep) && (decide (x.arr = y.arr) && (decide (x.eq = y.eq)))))) = false:=by
        cases x
        cases y
        simp only[Lg.mk.injEq] at hxy
        simp only[Bool.eq_false_iff,ne_eq,Bool.and_eq_true,decide_eq_true_eq]
        intro h
        exact hxy (by simp [*])
      simp (disch:=first|omega|(simp only[lenT];omega)) only[dT hlt,hc,hy,hn,lgR,evSt,↓eA,eB,evU,seval]
      simp only[hB,↓eA,eB,evU,seval]
theorem rsame_A (x y : Fl) (hx : x.legs.length ≤ 100000000) (S : Store) : CallA Tryz.prog 23 [.agg (flR x),.agg (flR y)] S fun r S'=>r = .bool (decide (x = y)) ∧ S' = S:=by
  refine CallA.keep Tryz.func23 c523 (Nat.le_of_ble_eq_true rfl) fun σ hσ=>?_
  have hsl:=fun S=>rsameLg_A x.legs y.legs hx S
  have hB : decide (x = y) = (decide (x.c = y.c) && (decide (x.n = y.n) && ((decide (x.p.f = y.p.f) && (decide (x.p.t = y.p.t) && decide (x.p.d = y.p.d))) && decide (x.legs = y.legs)))):=by
    obtain ⟨c,n,⟨f,t,d⟩,g⟩:=x
    obtain ⟨c',n',⟨f',t',d'⟩,g'⟩:=y
    rw[Bool.eq_iff_iff]
    simp only[Fl.mk.injEq,Pd.mk.injEq,Bool.and_eq_true,decide_eq_true_eq,and_assoc]
  rw[hB]
  simp only[flR] at *
  cases d1 : decide (x.c = y.c)<;>cases d2 : decide (x.n = y.n)<;>cases d3 : (decide (x.p.f = y.p.f) && (decide (x.p.t = y.p.t) && decide (x.p.d = y.p.d)))<;>simp (disch:=first|omega|(simp only[lenT];omega)) only[a523,d1,d2,d3,Bool.true_and,Bool.false_and,evSt,↓eA,eB,evU,seval]
  refine (hsl _).then ?_
  simp (disch:=first|omega|(simp only[lenT];omega)) only[Bool.true_and,evSt,↓eA,eB,evU,seval]
end Go.Proofs.YtiihkfjbllpiaaaGreatDoor
/- Schedule: what is not too large,what is right. -/
namespace Go.Proofs.YtiihkfjbllpiaaaGreatDoor
open Go Go.AL
set_option linter.unusedSectionVars false
variable [Go.AL.Mode] [Go.AL.LooseM]
set_option linter.unusedSimpArgs false
set_option linter.unusedVariables false
def BigOk (p : Pls) (x : Fl) : Prop:=x.legs.length ≤ 12 ∧ p.1.length ≤ 20 ∧ p.2.length ≤ 40
set_option maxHeartbeats 4000000 in
theorem bigF_A (p : Pls) (x : Fl) (hp : PSm p) (hx : x.legs.length ≤ 1100000) (S : Store) : CallA Tryz.prog 84 [plV p,.agg (flR x)] S fun r S'=>∃ b,r = .bool b ∧ (b = false → BigOk p x) ∧ S' = S:=by
  refine CallA.keep Tryz.func84 c584 (Nat.le_of_ble_eq_true rfl) fun σ hσ=>?_
  obtain ⟨hp1,hp2,hp3⟩:=hp
  simp (disch:=first|omega|(simp only[lenT];omega)) only[a584,plV,flR,evSt,↓eA,eB,evU,seval]
  refine loopA (ι:=Nat × Int) (fun i=>[(2,.cptr [.sl 5 (p.1.map aptR),.sl 3 (p.2.map dstR)]),(3,.cptr (flR x)),(5,.int .i64 i.2),(6,.int .i64 (i.1 : Nat))]) (fun _=>S) (fun i=>i.1 ≤ x.legs.length) (fun i=>x.legs.length - i.1) (0,(x.c.length : Nat)) (Nat.zero_le _) ?_ rfl ?_
  · simp only[flR,↓eA,eB,evU,seval]
    try rfl
  rintro ⟨i,n⟩ hi
  simp only at hi ⊢
  have fin : ∀ b1 b2 b3 b4 : Bool,b1 = decide (400 < n) → b2 = decide ((12 : Int) < x.legs.length) → b3 = decide ((20 : Int) < p.1.length) → b4 = decide ((40 : Int) < p.2.length) → ((b1 || (b2 || (b3 || b4))) = false → BigOk p x):=fun b1 b2 b3 b4 h1 h2 h3 h4 h=>by
    simp only[Bool.or_eq_false_iff,h1,h2,h3,h4,decide_eq_false_iff_not] at h
    exact ⟨by omega,by omega,by omega⟩
  by_cases hc : i < x.legs.length ∧ i < 20
  case neg =>
    by_cases hlt : (i : Int) < x.legs.length
    · have h20 : decide ((i : Int) < 20) = false:=decide_eq_false (by omega)
      cases b1 : decide (400 < n)<;>cases b2 : decide ((12 : Int) < x.legs.length)<;>cases b3 : decide ((20 : Int) < p.1.length)<;>cases b4 : decide ((40 : Int) < p.2.length)<;>simp (disch:=first|omega|(simp only[lenT];omega)) only[dT hlt,h20,flR,b1,b2,b3,b4,evSt,↓eA,eB,evU,seval]
      all_goals first
        | exact ⟨true,rfl,fun h=>Bool.noConfusion h⟩
        | exact ⟨false,rfl,fun _=>fin _ _ _ _ b1.symm b2.symm b3.symm b4.symm rfl⟩
    · cases b1 : decide (400 < n)<;>cases b2 : decide ((12 : Int) < x.legs.length)<;>cases b3 : decide ((20 : Int) < p.1.length)<;>cases b4 : decide ((40 : Int) < p.2.length)<;>simp (disch:=first|omega|(simp only[lenT];omega)) only[dF hlt,flR,b1,b2,b3,b4,evSt,↓eA,eB,evU,seval]
      all_goals first
        | exact ⟨true,rfl,fun h=>Bool.noConfusion h⟩
        | exact ⟨false,rfl,fun _=>fin _ _ _ _ b1.symm b2.symm b3.symm b4.symm rfl⟩
  case pos =>
    obtain ⟨hl,h20'⟩:=hc
    have hlt : (i : Int) < x.legs.length:=by omega
    have h20 : decide ((i : Int) < 20) = true:=decide_eq_true (by omega)
    have hk1 : (i : Int) + 1 = ((i + 1 : Nat) : Int):=by omega
    obtain ⟨l,hg⟩ : ∃ l,x.legs[i]? = some l:=⟨_,List.getElem?_eq_getElem hl⟩
    simp (disch:=first|omega|(simp only[lenT];omega)) only[dT hlt,h20,hg,flR,lgR,wrap_i64,hk1,evSt,↓eA,eB,evU,seval]
    exact ⟨(i + 1,IntKind.i64.wrap (IntKind.i64.wrap (IntKind.i64.wrap (n + (l.f.length : Nat)) + (l.t.length : Nat)) + (l.eq.length : Nat))),by simp only;omega,by simp only;omega,rfl,rfl⟩
theorem big_A (p : Pls) (l : List Fl) (hp : PSm p) (hl : l.length ≤ 1100000) (hx : ∀ x ∈ l,x.legs.length ≤ 1100000) (S : Store) : CallA Tryz.prog 43 [plV p,.sl 6 (l.map flR)] S fun r S'=>∃ b,r = .bool b ∧ (b = false → l.length ≤ 12 ∧ ∀ x ∈ l,BigOk p x) ∧ S' = S:=by
  refine CallA.keep Tryz.func43 c543 (Nat.le_of_ble_eq_true rfl) fun σ hσ=>?_
  have hb:=fun x S=>bigF_A p x hp (S:=S)
  simp only[plV] at hb
  simp (disch:=first|omega|(simp only[lenT];omega)) only[a543,plV,evSt,↓eA,eB,evU,seval]
  refine loopA (ι:=Nat) (fun i=>[(1,.sl 6 (l.map flR)),(2,.cptr [.sl 5 (p.1.map aptR),.sl 3 (p.2.map dstR)]),(5,.int .i64 (i : Nat))]) (fun _=>S) (fun i=>i ≤ l.length ∧ ∀ (j : Nat) (x : Fl),j < i → l[j]? = some x → BigOk p x) (fun i=>l.length - i) 0 ⟨Nat.zero_le _,fun j x hj=>by omega⟩ ?_ rfl ?_
  · simp only[↓eA,eB,evU,seval]
    try rfl
  rintro i ⟨hi,ha⟩
  by_cases hc : i < l.length ∧ i < 20
  case neg =>
    have fin : decide ((12 : Int) < l.length) = false → l.length ≤ 12 ∧ ∀ x ∈ l,BigOk p x:=fun h=>by
      have h12:=of_decide_eq_false h
      refine ⟨by omega,fun x hx=>?_⟩
      obtain ⟨j,hj⟩:=List.mem_iff_getElem?.1 hx
      exact ha j x (by have:=(List.getElem?_eq_some_iff.1 hj).1;omega) hj
    by_cases hlt : (i : Int) < l.length
    · have h20 : decide ((i : Int) < 20) = false:=decide_eq_false (by omega)
      simp (disch:=first|omega|(simp only[lenT];omega)) only[dT hlt,h20,evSt,↓eA,eB,evU,seval]
      exact ⟨_,rfl,fin⟩
    · simp (disch:=first|omega|(simp only[lenT];omega)) only[dF hlt,evSt,↓eA,eB,evU,seval]
      exact ⟨_,rfl,fin⟩
  case pos =>
    obtain ⟨hl',h20'⟩:=hc
    have hlt : (i : Int) < l.length:=by omega
    have h20 : decide ((i : Int) < 20) = true:=decide_eq_true (by omega)
    have hk1 : (i : Int) + 1 = ((i + 1 : Nat) : Int):=by omega
    obtain ⟨x,hg⟩ : ∃ x,l[i]? = some x:=⟨_,List.getElem?_eq_getElem hl'⟩
    simp (disch:=first|omega|(simp only[lenT];omega)) only[dT hlt,h20,hg,evSt,↓eA,eB,evU,seval]
    refine (hb x _ (hx x (List.mem_of_getElem? hg))).mono ?_
    rintro _ S2 ⟨b,rfl,hB,hS2⟩
    rw[hS2]
    cases b with
    | true =>
      simp (disch:=first|omega|(simp only[lenT];omega)) only[evSt,↓eA,eB,evU,seval]
      exact ⟨_,rfl,fun h=>by cases h⟩
    | false =>
      simp (disch:=first|omega|(simp only[lenT];omega)) only[wrap_i64,hk1,evSt,↓eA,eB,evU,seval]
      refine ⟨i + 1,⟨by omega,fun j y hj hy=>?_⟩,by omega,rfl⟩
      rcases Nat.lt_or_ge j i with h | h
      · exact ha j y h hy
      · obtain rfl : j = i:=by omega
        rw[hg] at hy
        cases hy
        exact hB rfl
structure SSm (p : Pls) (l : List Fl) : Prop where
  h1 : PSm p
  h2 : l.length ≤ 1100000
  h3 : ∀ x ∈ l,x.legs.length ≤ 1100000
structure Few (p : Pls) (l : List Fl) : Prop where
  h1 : l.length ≤ 12
  h2 : ∀ x ∈ l,BigOk p x
  h3 : ∀ a ∈ p.1,a.sh.length ≤ 256
theorem few_A (p : Pls) (l : List Fl) (h : SSm p l) (S : Store) : CallA Tryz.prog 12 [plV p,.sl 6 (l.map flR)] S fun r S'=>∃ b,r = .bool b ∧ (b = true → Few p l) ∧ S' = S:=by
  refine CallA.keep Tryz.func12 c512 (Nat.le_of_ble_eq_true rfl) fun σ hσ=>?_
  obtain ⟨hp,hl,hx⟩:=h
  have hb:=fun S=>big_A p l hp hl hx S
  have hr:=fun S=>rplaces_A p hp S
  simp only[plV] at hb hr
  simp (disch:=first|omega|(simp only[lenT];omega)) only[a512,plV,evSt,↓eA,eB,evU,seval]
  refine (hb _).mono ?_
  rintro _ S2 ⟨b,rfl,hB,hS2⟩
  rw[hS2]
  cases b with
  | true =>
    simp (disch:=first|omega|(simp only[lenT];omega)) only[evSt,↓eA,eB,evU,seval]
    exact ⟨_,rfl,fun h=>by cases h⟩
  | false =>
    simp (disch:=first|omega|(simp only[lenT];omega)) only[evSt,↓eA,eB,evU,seval]
    refine (hr _).mono ?_
    rintro _ S2 ⟨fs,rfl,hz,hS2⟩
    rw[hS2]
    simp (disch:=first|omega|(simp only[lenT];omega)) only[evSt,↓eA,eB,evU,seval]
    refine ⟨_,rfl,fun h=>⟨(hB rfl).1,(hB rfl).2,hz ?_⟩⟩
    exact List.eq_nil_of_length_eq_zero (by have:=of_decide_eq_true h;omega)
end Go.Proofs.YtiihkfjbllpiaaaGreatDoor
