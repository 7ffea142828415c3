/- Component: amounts, both sides. -/
import Derived.Test.YtanmnoipikdplaaGreatWCn5
namespace Go.Proofs.YtanmnoipikdplaaGreat
open Go Go.AL
set_option linter.unusedSectionVars false
variable [Go.AL.Mode]
set_option linter.unusedSimpArgs false
set_option linter.unusedVariables false
set_option maxHeartbeats 4000000 in
set_option maxRecDepth 10000 in
theorem amount_A (p : Pls) (hp : POk2 p) (t : Tar) (tx : List (List V)) (h : TOk t) (at_ : Int) (l : List Wnt) (hl : l.length ≤ 8) (ty : Txt) (S : Store) :
    CallA Tryz.prog 16 [plV p,.agg (tarV t tx),.int .i64 at_,.sl 8 (l.map wntR),.str ty] S fun v S'=>v = .tup [.int .i64 (amountF p t at_ l ty).1,.int .i64 (amountF p t at_ l ty).2] ∧ S' = S:=by
  refine CallA.withNeat Tryz.func16 c5016 fun hn=>?_
  refine CallA.fin Tryz.func16 c5016 (Nat.le_of_ble_eq_true rfl) fun σ hσ=>?_
  have fa:=fun S=>fare_A t tx h at_ l S
  have ci:=fun S=>cities_A p hp.apts l hl S
  rw[am_fare]
  simp only[tarV,plV] at fa ci
  cases hf : fareO t at_ l with
  | none =>
    rw[hf] at fa
    simp only[Option.getD_none,Option.isSome_none,frR] at fa
    simp (disch:=first|omega|(simp only[lenT];omega)) only[a5016,plV,tarV,evSt,↓eA,eB,evU,seval]
    refine (fa _).then ?_
    simp (disch:=first|omega|(simp only[lenT];omega)) only[evSt,↓eA,eB,evU,seval]
    exact ⟨_,S,hn.fgt _,.imm rfl,Nat.le_refl _,rfl,rfl⟩
  | some f =>
  obtain ⟨hne,_,_⟩:=fareO_ne hf
  dsimp only
  have hcl:=cs_len p l hne
  rw[hf] at fa
  have ru:=fun S=>trule_A t tx (by have:=h.rules;omega) f.rule S
  have ro:=fun S=>trout_A t tx (by have:=h.routs;omega) f.rout S
  obtain ⟨hg1,hg2⟩:=rul_get h f.rule
  have py:=fun a S=>pay_A _ hg2 ty a S
  have of_:=fun S=>of2_A p (citiesF p l) ((routF t f.rout).getD zRou).mi S hp.apts hp.dsts (by omega)
  have ap:=fun a S=>Ml.apply_A f.am a S
  have hex : extraF p t f l = if f.rout = 0 ∨ ((routF t f.rout).getD zRou).mi ≤ 0 then (0,0) else Ml.ofF p (citiesF p l) ((routF t f.rout).getD zRou).mi:=rfl
  simp only[Option.getD_some,Option.isSome_some,frR,plV,tarV,oRul,oRou] at fa ru ro of_
  generalize hR : (ruleF t f.rule).getD zRul = R at ru hg1 hg2 py ⊢
  generalize hRo : (routF t f.rout).getD zRou = Ro at ro of_ hex
  generalize hcs : citiesF p l = cs at ci of_ hcl hex
  generalize hE : extraF p t f l = ex at hex ⊢
  obtain ⟨n0,⟨c1,c2,c3,c4,c5,c6⟩,cb0,mn,m2,ch,rf,per⟩:=R
  simp only[rulR,Cnd.row,List.cons_append,List.nil_append] at py ru
  simp only[rouR] at ro
  have tail : ∀ (E : Int) (T : Store),True:=fun _ _=>trivial
  simp (disch:=first|omega|(simp only[lenT];omega)) only[a5016,plV,tarV,evSt,↓eA,eB,evU,seval]
  refine (fa _).then ?_
  by_cases h0 : f.rout = 0
  case pos =>
    have hx : ex = (0,0):=by rw[hex,if_pos (.inl h0)]
    subst hx
    simp (disch:=first|omega|(simp only[lenT];omega)) only[dT h0,ne_eq,not_true_eq_false,if_false,evSt,↓eA,eB,evU,seval]
    refine (ap 0 _).then ?_
    by_cases he2 : (Ml.applyF f.am 0).2 = 0
    · rw[if_neg (fun hh=>hh he2)]
      simp (disch:=first|omega|(simp only[lenT];omega)) only[dT he2,evSt,↓eA,eB,evU,seval]
      refine (ru _).then ?_
      simp (disch:=first|omega|(simp only[lenT];omega)) only[evSt,↓eA,eB,evU,seval]
      refine (py _ _).then ?_
      simp (disch:=first|omega|(simp only[lenT];omega)) only[evSt,↓eA,eB,evU,seval]
      exact ⟨_,S,hn.fgt _,.imm rfl,Nat.le_refl _,rfl,rfl⟩
    · rw[if_pos he2]
      simp (disch:=first|omega|(simp only[lenT];omega)) only[dF he2,evSt,↓eA,eB,evU,seval]
      exact ⟨_,S,hn.fgt _,.imm rfl,Nat.le_refl _,rfl,rfl⟩
  case neg =>
    simp (disch:=first|omega|(simp only[lenT];omega)) only[dF h0,evSt,↓eA,eB,evU,seval]
    refine (ro _).then ?_
    by_cases hm : Ro.mi ≤ 0
    case pos =>
      have hx : ex = (0,0):=by rw[hex,if_pos (.inr hm)]
      subst hx
      have hm2 : ¬ 0 < Ro.mi:=by omega
      simp (disch:=first|omega|(simp only[lenT];omega)) only[dF hm2,ne_eq,not_true_eq_false,if_false,evSt,↓eA,eB,evU,seval]
      refine (ap 0 _).then ?_
      by_cases he2 : (Ml.applyF f.am 0).2 = 0
      · rw[if_neg (fun hh=>hh he2)]
        simp (disch:=first|omega|(simp only[lenT];omega)) only[dT he2,evSt,↓eA,eB,evU,seval]
        refine (ru _).then ?_
        simp (disch:=first|omega|(simp only[lenT];omega)) only[evSt,↓eA,eB,evU,seval]
        refine (py _ _).then ?_
        simp (disch:=first|omega|(simp only[lenT];omega)) only[evSt,↓eA,eB,evU,seval]
        exact ⟨_,S,hn.fgt _,.imm rfl,Nat.le_refl _,rfl,rfl⟩
      · rw[if_pos he2]
        simp (disch:=first|omega|(simp only[lenT];omega)) only[dF he2,evSt,↓eA,eB,evU,seval]
        exact ⟨_,S,hn.fgt _,.imm rfl,Nat.le_refl _,rfl,rfl⟩
    case neg =>
      have hx : ex = Ml.ofF p cs Ro.mi:=by rw[hex,if_neg (by rintro (e | e);exact h0 e;exact hm e)]
      rw[← hx] at of_
      have hm2 : 0 < Ro.mi:=by omega
      simp (disch:=first|omega|(simp only[lenT];omega)) only[dT hm2,evSt,↓eA,eB,evU,seval]
      refine exD.intro (ci _) ?_
      simp (disch:=first|omega|(simp only[lenT];omega)) only[evSt,↓eA,eB,evU,seval]
      refine (of_ _).then ?_
      by_cases he : ex.2 = 0
      case neg =>
        rw[if_pos he]
        simp (disch:=first|omega|(simp only[lenT];omega)) only[dF he,evSt,↓eA,eB,evU,seval]
        exact ⟨_,S,hn.fgt _,.imm rfl,Nat.le_refl _,rfl,rfl⟩
      case pos =>
        rw[if_neg (fun hh=>hh he)]
        simp (disch:=first|omega|(simp only[lenT];omega)) only[dT he,evSt,↓eA,eB,evU,seval]
        refine (ap ex.1 _).then ?_
        by_cases he2 : (Ml.applyF f.am ex.1).2 = 0
        · rw[if_neg (fun hh=>hh he2)]
          simp (disch:=first|omega|(simp only[lenT];omega)) only[dT he2,evSt,↓eA,eB,evU,seval]
          refine (ru _).then ?_
          simp (disch:=first|omega|(simp only[lenT];omega)) only[evSt,↓eA,eB,evU,seval]
          refine (py _ _).then ?_
          simp (disch:=first|omega|(simp only[lenT];omega)) only[evSt,↓eA,eB,evU,seval]
          exact ⟨_,S,hn.fgt _,.imm rfl,Nat.le_refl _,rfl,rfl⟩
        · rw[if_pos he2]
          simp (disch:=first|omega|(simp only[lenT];omega)) only[dF he2,evSt,↓eA,eB,evU,seval]
          exact ⟨_,S,hn.fgt _,.imm rfl,Nat.le_refl _,rfl,rfl⟩
set_option maxHeartbeats 4000000 in
set_option maxRecDepth 10000 in
theorem ramount_A (p : Pls) (hp : POk2 p) (t : Tar) (tx : List (List V)) (h : TOk t) (at_ : Int) (l : List Wnt) (hl : l.length ≤ 8) (ty : Txt) (S : Store) :
    CallA Tryz.prog 17 [plV p,.agg (tarV t tx),.int .i64 at_,.sl 8 (l.map wntR),.str ty] S fun v S'=>v = .tup [.int .i64 (amountF p t at_ l ty).1,.int .i64 (amountF p t at_ l ty).2] ∧ S' = S:=by
  refine CallA.withNeat Tryz.func17 c5023 fun hn=>?_
  refine CallA.fin Tryz.func17 c5023 (Nat.le_of_ble_eq_true rfl) fun σ hσ=>?_
  have ci:=fun S=>rcities_A p hp.apts l hl S
  rw[am_fare]
  simp only[plV] at ci
  by_cases h1 : ((l.length : Nat) : Int) = 0
  · have e : fareO t at_ l = none:=if_pos (.inl (List.length_eq_zero_iff.1 (by omega)))
    rw[e]
    simp (disch:=first|omega|(simp only[lenT];omega)) only[a5023,plV,tarV,dT h1,evSt,↓eA,eB,evU,seval]
    exact ⟨_,S,hn.self,.imm rfl,Nat.le_refl _,rfl,rfl⟩
  by_cases h2 : at_ < 0
  · have e : fareO t at_ l = none:=if_pos (.inr h2)
    rw[e]
    simp (disch:=first|omega|(simp only[lenT];omega)) only[a5023,plV,tarV,dF h1,dT h2,evSt,↓eA,eB,evU,seval]
    exact ⟨_,S,hn.self,.imm rfl,Nat.le_refl _,rfl,rfl⟩
  have e : fareO t at_ l = t.fares[at_.toNat]?:=if_neg (by
    rintro (h | h)
    · rw[h] at h1;exact h1 rfl
    · exact h2 h)
  rw[e]
  have hne : l ≠ []:=fun h=>by rw[h] at h1;exact h1 rfl
  clear e
  obtain ⟨n,rfl⟩ : ∃ n : Nat,at_ = (n : Nat):=⟨at_.toNat,by omega⟩
  rw[Int.toNat_natCast]
  cases hc : t.fares[n]? with
  | none =>
    have hge : t.fares.length ≤ n:=List.getElem?_eq_none_iff.1 hc
    have h3 : ((t.fares.length : Nat) : Int) ≤ (n : Nat):=by omega
    simp (disch:=first|omega|(simp only[lenT];omega)) only[a5023,plV,tarV,dF h1,dF h2,dT h3,evSt,↓eA,eB,evU,seval]
    exact ⟨_,S,hn.self,.imm rfl,Nat.le_refl _,rfl,rfl⟩
  | some f =>
  dsimp only
  have hltn:=(List.getElem?_eq_some_iff.1 hc).1
  have h3 : ¬ ((t.fares.length : Nat) : Int) ≤ (n : Nat):=by omega
  have hcl:=cs_len p l hne
  have ru:=fun S=>rrule_A t tx (by have:=h.rules;omega) f.rule S
  have mi:=fun S=>miles_A t tx h f S
  obtain ⟨hg1,hg2⟩:=rul_get h f.rule
  have py:=fun a S=>rpay_A _ hg2 ty a S
  have of_:=fun S=>rof2_A p (citiesF p l) (milF t f) S hp.apts hp.dsts (by omega)
  have ap:=fun a S=>Ml.refapply_A f.am a S
  have hex:=ext_mil p t f l
  simp only[frR,plV,tarV,oRul] at ru mi of_
  generalize hR : (ruleF t f.rule).getD zRul = R at ru hg1 hg2 py ⊢
  generalize hM : milF t f = M at mi of_ hex
  generalize hcs : citiesF p l = cs at ci of_ hcl hex
  generalize hE : extraF p t f l = ex at hex ⊢
  obtain ⟨n0,⟨c1,c2,c3,c4,c5,c6⟩,cb0,mn,m2,ch,rf,per⟩:=R
  simp only[rulR,Cnd.row,List.cons_append,List.nil_append] at py ru
  have key : ∀ T : Store,CallA Tryz.prog 40 [.agg [.sl 9 (t.fares.map frR),.sl 15 (t.rules.map rulR),.sl 3 (t.routs.map rouR),.sl 7 tx],.agg [.str f.c,.str f.f,.str f.t,.str f.bas,.str f.cl,.bool f.rnd,.int .i64 f.am,.int .i64 f.rule,.int .i64 f.rout]] T fun v S'=>v = .int .i64 M ∧ S' = T:=mi
  simp (disch:=first|omega|(simp only[lenT];omega)) only[a5023,plV,tarV,dF h1,dF h2,dF h3,hc,frR,evSt,↓eA,eB,evU,seval]
  refine (key _).then ?_
  by_cases hm2 : 0 < M
  case neg =>
    have hx : ex = (0,0):=by rw[hex,if_neg hm2]
    subst hx
    simp (disch:=first|omega|(simp only[lenT];omega)) only[dF hm2,ne_eq,not_true_eq_false,if_false,evSt,↓eA,eB,evU,seval]
    refine (ap 0 _).then ?_
    by_cases he2 : (Ml.applyF f.am 0).2 = 0
    · rw[if_neg (fun hh=>hh he2)]
      simp (disch:=first|omega|(simp only[lenT];omega)) only[dT he2,evSt,↓eA,eB,evU,seval]
      refine (ru _).then ?_
      simp (disch:=first|omega|(simp only[lenT];omega)) only[evSt,↓eA,eB,evU,seval]
      refine (py _ _).then ?_
      simp (disch:=first|omega|(simp only[lenT];omega)) only[evSt,↓eA,eB,evU,seval]
      exact ⟨_,S,hn.fgt _,.imm rfl,Nat.le_refl _,rfl,rfl⟩
    · rw[if_pos he2]
      simp (disch:=first|omega|(simp only[lenT];omega)) only[dF he2,evSt,↓eA,eB,evU,seval]
      exact ⟨_,S,hn.fgt _,.imm rfl,Nat.le_refl _,rfl,rfl⟩
  case pos =>
    have hx : ex = Ml.ofF p cs M:=by rw[hex,if_pos hm2]
    rw[← hx] at of_
    simp (disch:=first|omega|(simp only[lenT];omega)) only[dT hm2,evSt,↓eA,eB,evU,seval]
    refine exD.intro (ci _) ?_
    simp (disch:=first|omega|(simp only[lenT];omega)) only[evSt,↓eA,eB,evU,seval]
    refine exD.intro (key _) ?_
    simp (disch:=first|omega|(simp only[lenT];omega)) only[evSt,↓eA,eB,evU,seval]
    refine (of_ _).then ?_
    by_cases he : ex.2 = 0
    case neg =>
      rw[if_pos he]
      simp (disch:=first|omega|(simp only[lenT];omega)) only[dF he,evSt,↓eA,eB,evU,seval]
      exact ⟨_,S,hn.fgt _,.imm rfl,Nat.le_refl _,rfl,rfl⟩
    case pos =>
      rw[if_neg (fun hh=>hh he)]
      simp (disch:=first|omega|(simp only[lenT];omega)) only[dT he,evSt,↓eA,eB,evU,seval]
      refine (ap ex.1 _).then ?_
      by_cases he2 : (Ml.applyF f.am ex.1).2 = 0
      · rw[if_neg (fun hh=>hh he2)]
        simp (disch:=first|omega|(simp only[lenT];omega)) only[dT he2,evSt,↓eA,eB,evU,seval]
        refine (ru _).then ?_
        simp (disch:=first|omega|(simp only[lenT];omega)) only[evSt,↓eA,eB,evU,seval]
        refine (py _ _).then ?_
        simp (disch:=first|omega|(simp only[lenT];omega)) only[evSt,↓eA,eB,evU,seval]
        exact ⟨_,S,hn.fgt _,.imm rfl,Nat.le_refl _,rfl,rfl⟩
      · rw[if_pos he2]
        simp (disch:=first|omega|(simp only[lenT];omega)) only[dF he2,evSt,↓eA,eB,evU,seval]
        exact ⟨_,S,hn.fgt _,.imm rfl,Nat.le_refl _,rfl,rfl⟩
end Go.Proofs.YtanmnoipikdplaaGreat
