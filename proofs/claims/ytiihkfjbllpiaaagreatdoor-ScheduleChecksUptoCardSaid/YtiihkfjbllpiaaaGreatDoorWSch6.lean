/- period.Days over the store: the walk in memory carried over; the reference's days. Airports found, minutes of the world's time. Legs and segments of a flight on a day. -/
import Derived.Test.YtiihkfjbllpiaaaGreatDoorWAlA
import Derived.Test.YtiihkfjbllpiaaaGreatDoorWSchV
namespace Go.Proofs.YtiihkfjbllpiaaaGreatDoor
open Go Go.AL
set_option linter.unusedSectionVars false
variable [Go.AL.Mode] [Go.AL.LooseM]
set_option linter.unusedSimpArgs false
set_option linter.unusedVariables false
theorem agg3_inv {ρ : AL.Place} {S : Store} {w : World} {b : Bool} {p : Pd} {u : Value} (h : VR ρ S w b (.agg (pdR p)) u) : u = .agg #[.int .i64 p.f,.int .i64 p.t,.int .i64 p.d]:=by
  cases h with
  | agg c hl hc hv =>
    rename_i us
    congr 1
    apply Array.ext_getElem?
    intro i
    match i with
    | 0 =>
      have h0:=hv 0 (.int .i64 p.f) rfl
      rw[hc 0 _ rfl]
      generalize c 0 = x at h0
      cases h0;rfl
    | 1 =>
      have h0:=hv 1 (.int .i64 p.t) rfl
      rw[hc 1 _ rfl]
      generalize c 1 = x at h0
      cases h0;rfl
    | 2 =>
      have h0:=hv 2 (.int .i64 p.d) rfl
      rw[hc 2 _ rfl]
      generalize c 2 = x at h0
      cases h0;rfl
    | i + 3=>rw[Array.getElem?_eq_none_iff.2 (by rw[hl];simp [pdR]),Array.getElem?_eq_none_iff.2 (by simp)]
theorem one_inv {ρ : AL.Place} {S : Store} {w : World} {p : Pd} {us : Array Value} (h : VRs ρ S w [.agg (pdR p)] us) : us = #[.agg #[.int .i64 p.f,.int .i64 p.t,.int .i64 p.d]]:=by
  obtain ⟨h2,hvs⟩:=h
  obtain ⟨u0,e0,r0⟩:=hvs 0 _ rfl
  rw[agg3_inv r0] at e0
  apply Array.ext_getElem?
  intro i
  match i with
  | 0=>rw[e0];rfl
  | i + 1=>rw[Array.getElem?_eq_none_iff.2 (by simp at h2;omega),Array.getElem?_eq_none_iff.2 (by simp)]
theorem days_A (p : Pd) (S : Store) : CallA Tryz.prog 91 [.agg (pdR p)] S fun r S'=>r = .sl 1 ((daysF p).map inR) ∧ S' = S:=by
  refine ⟨⟨Tryz.f91,Tryz.func91,by kernel_rfl,by kernel_rfl⟩,fun ρ w us hi hvs=>?_⟩
  rw[one_inv hvs]
  refine (callsIn_wide.1 (days_in Fence.wide leaves 3 (Nat.le_refl _) p w (tab_none hi.tab))).mono ?_
  rintro en w' ⟨v,rfl,hown,hnil,hB⟩
  by_cases h0 : daysF p = []
  · rw[hnil.2 h0,h0]
    exact ⟨ρ,S,_,_,rfl,.slNil,inv_below hi hB,ext_below hB,rfl,rfl⟩
  · have hpos : 0 < (daysF p).length:=List.length_pos_iff.2 h0
    refine ⟨ρ,S,_,_,rfl,row_imm hi hB hown (by simp) hpos ⟨fun i r hr=>?_,fun i r hr j x hj=>?_⟩ (fun r hr=>?_) false,inv_below hi hB,ext_below hB,rfl,rfl⟩
    · obtain ⟨d,_,rfl⟩:=List.mem_map.1 (List.mem_of_getElem? hr)
      rfl
    · rw[List.getElem?_map,Option.map_eq_some_iff] at hr
      obtain ⟨d,hd,rfl⟩:=hr
      match j,hj with
      | 0,hj =>
        cases hj
        exact ⟨.int .i64 d,by simp [hd],.int,rfl⟩
    · obtain ⟨d,_,rfl⟩:=List.mem_map.1 hr
      rfl
theorem hasF_eq {p : Pd} (h : pdF p = 0) {d : Int} (h1 : p.f ≤ d) (h2 : d ≤ p.t) : hasF p d = onF p.d d:=by
  unfold hasF
  simp [h,h1,h2]
theorem inR_imm (l : List Int) : ∀ r ∈ l.map inR,r.length = 1 ∧ V.allImm r = true:=fun r hr=>by
  obtain ⟨d,_,rfl⟩:=List.mem_map.1 hr
  exact ⟨rfl,rfl⟩
theorem daysTo_zero (p : Pd) : daysTo p 0 = []:=by simp [daysTo]
theorem rdays_A (p : Pd) (S : Store) : CallA Tryz.prog 101 [.agg (pdR p)] S fun r S'=>r = .sl 1 ((daysF p).map inR) ∧ S' = S:=by
  refine CallA.back Tryz.func101 c601 (Nat.le_of_ble_eq_true rfl) (R:=fun r=>r = .sl 1 ((daysF p).map inR)) fun σ hσ hn=>?_
  have hck : ∀ S,CallA Tryz.prog 113 [.agg [.int .i64 p.f,.int .i64 p.t,.int .i64 p.d]] S fun r S'=>r = .int .i64 (pdF p) ∧ S' = S:=rcheck_A p
  have hhs : ∀ d S,CallA Tryz.prog 64 [.agg [.int .i64 p.f,.int .i64 p.t,.int .i64 p.d],.int .i64 d] S fun r S'=>r = .bool (hasF p d) ∧ S' = S:=rhas_A p
  simp (disch:=first|omega|(simp only[lenT];omega)) only[a601,pdR,evSt,↓eA,eB,evU,seval]
  refine loopA (ι:=Nat) (fun k=>[(1,.cptr (pdR p)),(3,accV S.length ((daysTo p k).map inR)),(4,.int .i64 (p.f + (k : Nat)))]) (fun k=>S ++ accT 3 1 ((daysTo p k).map inR)) (fun k=>pdF p ≠ 0 ∧ k = 0 ∨ pdF p = 0 ∧ k ≤ (p.t - p.f + 1).toNat) (fun k=>(p.t - p.f + 1).toNat - k)
    0 (by by_cases h : pdF p = 0;exact .inr ⟨h,Nat.zero_le _⟩;exact .inl ⟨h,rfl⟩) ?_ (by simp [daysTo_zero,accT]) ?_
  · simp only[pdR,daysTo_zero,List.map_nil,accV_nil,↓eA,eB,evU,seval]
  rintro k hk
  simp only[pdR,↓eA,eB,evU,seval]
  refine (hck _).then ?_
  rcases hk with ⟨h0,rfl⟩ | ⟨h0,hk⟩
  · simp only[dF h0,evSt,↓eA,eB,evU,seval]
    refine ⟨_,⟨_,rfl⟩,frz_acc (inR_imm _),?_⟩
    unfold daysF
    rw[if_neg h0,daysTo_zero]
  obtain ⟨q1,q2,q3,q4,q5,q6⟩:=pd_ok h0
  have hl:=daysTo_len p k
  by_cases hlt : p.f + (k : Nat) ≤ p.t
  · have hk1 : p.f + (k : Nat) + 1 = p.f + ((k + 1 : Nat) : Int):=by omega
    simp (disch:=first|omega|(simp only[lenT];omega)) only[dT h0,dT hlt,evSt,↓eA,eB,evU,seval]
    refine (hhs _ _).then ?_
    have hh:=hasF_eq h0 (d:=p.f + (k : Nat)) (by omega) hlt
    by_cases hon : onF p.d (p.f + (k : Nat)) = true
    · rw[hon] at hh
      have hs : (daysTo p (k + 1)).map inR = (daysTo p k).map inR ++ [inR (p.f + (k : Nat))]:=by rw[daysTo_succ,if_pos hon,List.map_append];rfl
      simp (disch:=first|omega|(simp only[lenT];omega)) only[hh,app_acc rfl,wrap_i64,evSt,↓eA,eB,evU,seval]
      exact ⟨k + 1,.inr ⟨h0,by omega⟩,by omega,⟨by rw[hs];rfl,hk1⟩,by rw[hs];rfl⟩
    · have hof : onF p.d (p.f + (k : Nat)) = false:=by simpa using hon
      rw[hof] at hh
      have hs : daysTo p (k + 1) = daysTo p k:=by rw[daysTo_succ,if_neg hon]
      simp (disch:=first|omega|(simp only[lenT];omega)) only[hh,wrap_i64,hk1,evSt,↓eA,eB,evU,seval]
      exact ⟨k + 1,.inr ⟨h0,by omega⟩,by omega,⟨by rw[hs],rfl⟩,by rw[hs]⟩
  · simp (disch:=first|omega|(simp only[lenT];omega)) only[dT h0,dF hlt,evSt,↓eA,eB,evU,seval]
    refine ⟨_,⟨_,rfl⟩,frz_acc (inR_imm _),?_⟩
    rw[daysF_eq h0,show k = (p.t - p.f + 1).toNat by omega]
theorem of_args {f : FuncId} {args args' : List V} {S : Store} {R : V → Store → Prop} (h : CallA Tryz.prog f args' S R) (ha : ∀ ρ w us,VRs ρ S w args us → VRs ρ S w args' us) : CallA Tryz.prog f args S R :=
  ⟨h.1,fun ρ w us hi hv=>h.2 ρ w us hi (ha ρ w us hv)⟩
def noApt : List V:=[.str [],.str [],.str [],.int .i64 0,.nilSl]
def findR (o : Option Apt) : V:=match o with
  | some a=>.tup [.agg (aptR a),.bool true]
  | none=>.tup [.agg noApt,.bool false]
theorem find_at {l : List Apt} {q : Apt → Bool} {k : Nat} {a : Apt} (h : l.find? q = (l.drop k).find? q) (ha : l[k]? = some a) (hq : q a = true) : l.find? q = some a:=by
  have e : l.drop k = a :: l.drop (k + 1):=by
    obtain ⟨hlt,rfl⟩:=List.getElem?_eq_some_iff.1 ha
    exact List.drop_eq_getElem_cons hlt
  rw[h,e,List.find?_cons_of_pos hq]
theorem find_next {α : Type} {l : List α} {q : α → Bool} {k : Nat} {a : α} (h : l.find? q = (l.drop k).find? q) (ha : l[k]? = some a) (hq : q a = false) : l.find? q = (l.drop (k + 1)).find? q:=by
  have e : l.drop k = a :: l.drop (k + 1):=by
    obtain ⟨hlt,rfl⟩:=List.getElem?_eq_some_iff.1 ha
    exact List.drop_eq_getElem_cons hlt
  rw[h,e,List.find?_cons_of_neg (by simp [hq])]
theorem find_end {α : Type} {l : List α} {q : α → Bool} {k : Nat} (h : l.find? q = (l.drop k).find? q) (ha : l[k]? = none) : l.find? q = none:=by
  rw[h,List.drop_eq_nil_of_le (List.getElem?_eq_none_iff.1 ha)]
  rfl
theorem find_A (p : Pls) (c : Txt) (S : Store) (hl : p.1.length ≤ 1100000) : CallA Tryz.prog 111 [plV p,.str c] S fun r S'=>r = findR (findF p c) ∧ S' = S:=by
  refine CallA.withNeat Tryz.func111 c611 fun hn=>?_
  refine CallA.fin Tryz.func111 c611 (Nat.le_of_ble_eq_true rfl) fun σ hσ=>?_
  simp (disch:=first|omega|(simp only[lenT];omega)) only[a611,plV,evSt,↓eA,eB,evU,seval]
  refine loopF (ι:=Nat) (fun k=>[(1,.str c),(4,.ptr S.length 0 0 0),(9,.sl 5 (p.1.map aptR)),(10,.int .i64 p.1.length),(11,.int .i64 (k : Nat))]) (fun _=>S ++ [⟨0,some (.arr 134 5 [noApt])⟩]) (fun k=>k ≤ p.1.length ∧ p.1.find? (fun a=>decide (a.code = c)) = (p.1.drop k).find? (fun a=>decide (a.code = c))) (fun k=>p.1.length - k) (fun i hi=>by rw[hσ];simp) 0 ⟨Nat.zero_le _,rfl⟩ (.inl ⟨?_,rfl⟩) ?_
  · simp only[↓eA,eB,evU,seval]
  · rintro k ⟨hk,hinv⟩
    cases hc : p.1[k]? with
    | none =>
      have hlt : ¬ ((k : Int) < p.1.length):=by rw[List.getElem?_eq_none_iff] at hc;omega
      have hf : findF p c = none:=find_end hinv hc
      simp (disch:=first|omega|(simp only[lenT];omega)) only[hf,findR,noApt,hlt,decide_false,evSt,↓eA,eB,evU,seval]
      exact ⟨_,S,hn.fgt _,.imm rfl,Nat.le_refl _,rfl,rfl⟩
    | some a =>
      have hlt':=(List.getElem?_eq_some_iff.1 hc).1
      have hlt : (k : Int) < p.1.length:=by omega
      by_cases h : a.code = c
      · have he : decide (a.code = c) = true:=by simp [h]
        have hf : findF p c = some a:=find_at hinv hc he
        simp (disch:=first|omega|(simp only[lenT];omega)) only[hf,findR,aptR,noApt,hc,hlt,he,decide_true,evSt,↓eA,eB,evU,seval]
        exact ⟨_,S,hn.fgt _,.imm rfl,Nat.le_refl _,rfl,rfl⟩
      · simp (disch:=first|omega|(simp only[lenT];omega)) only[aptR,noApt,wrap_i64,hc,hlt,h,decide_true,decide_false,evSt,↓eA,eB,evU,seval]
        refine ⟨k + 1,⟨by omega,find_next hinv hc (by simp [h])⟩,by omega,back_under ?_ (by simp only[↓eA,eB,evU,seval];rfl) (by simp [V.under])⟩
        exact hn.fgtL (L:=[_,_]) (L1:=[_]) ⟨rfl,⟨_,rfl,.imm (fun r hr=>by simp only[noApt,List.mem_singleton] at hr;subst hr;exact ⟨rfl,rfl⟩)⟩,trivial⟩
theorem rfind_A (p : Pls) (c : Txt) (S : Store) (hl : p.1.length ≤ 1100000) : CallA Tryz.prog 98 [plV p,.str c] S fun r S'=>r = findR (findF p c) ∧ S' = S:=by
  refine CallA.withNeat Tryz.func98 c598 fun hn=>?_
  refine CallA.fin Tryz.func98 c598 (Nat.le_of_ble_eq_true rfl) fun σ hσ=>?_
  simp (disch:=first|omega|(simp only[lenT];omega)) only[a598,plV,evSt,↓eA,eB,evU,seval]
  refine loopF (ι:=Nat) (fun k=>[(1,.str c),(2,.cptr [.sl 5 (p.1.map aptR),.sl 3 (p.2.map dstR)]),(4,.ptr S.length 0 0 0),(6,.int .i64 (k : Nat))]) (fun _=>S ++ [⟨0,some (.arr 134 5 [noApt])⟩]) (fun k=>k ≤ p.1.length ∧ p.1.find? (fun a=>decide (a.code = c)) = (p.1.drop k).find? (fun a=>decide (a.code = c))) (fun k=>p.1.length - k) (fun i hi=>by rw[hσ];simp) 0 ⟨Nat.zero_le _,rfl⟩ (.inl ⟨?_,rfl⟩) ?_
  · simp only[↓eA,eB,evU,seval]
  · rintro k ⟨hk,hinv⟩
    cases hc : p.1[k]? with
    | none =>
      have hlt : ¬ ((k : Int) < p.1.length):=by rw[List.getElem?_eq_none_iff] at hc;omega
      have hf : findF p c = none:=find_end hinv hc
      simp (disch:=first|omega|(simp only[lenT];omega)) only[hf,findR,noApt,hlt,decide_false,evSt,↓eA,eB,evU,seval]
      exact ⟨_,S,hn.fgt _,.imm rfl,Nat.le_refl _,rfl,rfl⟩
    | some a =>
      have hlt':=(List.getElem?_eq_some_iff.1 hc).1
      have hlt : (k : Int) < p.1.length:=by omega
      by_cases h : a.code = c
      · have he : decide (a.code = c) = true:=by simp [h]
        have hf : findF p c = some a:=find_at hinv hc he
        simp (disch:=first|omega|(simp only[lenT];omega)) only[hf,findR,aptR,noApt,hc,hlt,he,decide_true,evSt,↓eA,eB,evU,seval]
        exact ⟨_,S,hn.fgt _,.imm rfl,Nat.le_refl _,rfl,rfl⟩
      · simp (disch:=first|omega|(simp only[lenT];omega)) only[aptR,noApt,wrap_i64,hc,hlt,h,decide_true,decide_false,evSt,↓eA,eB,evU,seval]
        exact ⟨k + 1,⟨by omega,find_next hinv hc (by simp [h])⟩,by omega,.inl ⟨by simp only[↓eA,eB,evU,seval];rfl,rfl⟩⟩
abbrev Spn:=Int × Int × Int
def spnR (s : Spn) : List V:=[.int .i64 s.1,.int .i64 s.2.1,.int .i64 s.2.2]
def spansF (f off : Int) : List (Int × Int) → List Spn
  | []=>[(f,9223372036854775807,off)]
  | s :: r=>(f,s.1,off) :: spansF s.1 s.2 r
def utcS (local_ : Int) : List Spn → Int → Int
  | [],u=>u
  | s :: r,_=>if max s.1 (w64 (local_ - s.2.2)) < s.2.1 then max s.1 (w64 (local_ - s.2.2)) else utcS local_ r (max s.1 (w64 (local_ - s.2.2)))
theorem utcS_spans (m : Int) : ∀ (l : List (Int × Int)) (f off u : Int),utcS m (spansF f off l) u = utcG (max f (w64 (m - off))) l m
  | [],f,off,u=>by simp only[spansF,utcS,utcG];split<;>rfl
  | s :: r,f,off,u=>by
    simp only[spansF,utcS,utcG]
    by_cases h : max f (w64 (m - off)) < s.1
    · rw[if_pos h,if_pos h]
    · rw[if_neg h,if_neg h,utcS_spans m r]
theorem w64_ge (n : Int) : -9223372036854775808 ≤ w64 n:=by
  unfold w64 IntKind.wrap
  simp only[IntKind.signed,IntKind.bits]
  simp
  omega
theorem utcS_top (m off : Int) (l : List (Int × Int)) (u : Int) : utcS m (spansF (-9223372036854775808) off l) u = utcF off l m:=by
  rw[utcS_spans,utcF,show max (-9223372036854775808) (w64 (m - off)) = w64 (m - off) from by have:=w64_ge (m - off);omega]
theorem spans_ne (f off : Int) (l : List (Int × Int)) : (spansF f off l).length = l.length + 1:=by
  induction l generalizing f off with
  | nil=>rfl
  | cons s r ih=>simp [spansF,ih]
theorem spans_last (s : Int × Int) : ∀ (l : List (Int × Int)) (f off : Int),∃ f' o',(spansF f off l)[l.length]? = some (f',9223372036854775807,o') ∧
    spansF f off (l ++ [s]) = (spansF f off l).set l.length (f',s.1,o') ++ [(s.1,9223372036854775807,s.2)]
  | [],f,off=>⟨f,off,rfl,rfl⟩
  | x :: l,f,off=>by
    obtain ⟨f',o',h1,h2⟩:=spans_last s l x.1 x.2
    exact ⟨f',o',by simpa [spansF] using h1,by simp [spansF,h2]⟩
theorem spnR_imm (l : List Spn) : ∀ r ∈ l.map spnR,r.length = 3 ∧ V.allImm r = true:=fun r hr=>by
  obtain ⟨d,_,rfl⟩:=List.mem_map.1 hr
  exact ⟨rfl,rfl⟩
theorem spans_A (off : Int) (l : List (Int × Int)) (hl : l.length ≤ 100000) (S : Store) : CallA Tryz.prog 150 [.agg [.int .i64 off,.sl 2 (l.map shR)]] S fun r S'=>r = .sl 3 ((spansF (-9223372036854775808) off l).map spnR) ∧ S' = S:=by
  refine CallA.back Tryz.func150 c650 (Nat.le_of_ble_eq_true rfl) (R:=fun r=>r = .sl 3 ((spansF (-9223372036854775808) off l).map spnR)) fun σ hσ hn=>?_
  simp (disch:=first|omega|(simp only[lenT];omega)) only[a650,evSt,↓eA,eB,evU,seval]
  refine loopF (ι:=Nat × Nat) (fun i=>[(3,.msl S.length i.2 0 (i.1 + 1)),(11,.sl 2 (l.map shR)),(12,.int .i64 l.length),(13,.int .i64 (i.1 : Nat))]) (fun i=>S ++ [⟨i.2,some (.arr 173 3 ((spansF (-9223372036854775808) off (l.take i.1)).map spnR))⟩]) (fun i=>i.1 ≤ l.length) (fun i=>l.length - i.1) (fun i hi=>by rw[hσ];simp) (0,0) (Nat.zero_le _) (.inl ⟨?_,rfl⟩) ?_
  · simp only[↓eA,eB,evU,seval]
  · rintro ⟨k,ver⟩ hk
    simp only at hk ⊢
    have hsl : (spansF (-9223372036854775808) off (l.take k)).length = k + 1:=by rw[spans_ne,List.length_take];omega
    cases hc : l[k]? with
    | none =>
      have hge : l.length ≤ k:=List.getElem?_eq_none_iff.1 hc
      have hlt : ¬ ((k : Int) < l.length):=by omega
      simp (disch:=first|omega|(simp only[lenT];omega)) only[hlt,decide_false,evSt,↓eA,eB,evU,seval]
      have hlk : k = l.length:=by omega
      refine ⟨_,⟨_,rfl⟩,.sl (t:=173) (Nat.le_refl _) (by rw[ob_app0,ob_head]) (by rw[List.length_map];exact hsl) (spnR_imm _),?_⟩
      rw[List.take_of_length_le hge]
    | some s =>
      have hlt':=(List.getElem?_eq_some_iff.1 hc).1
      have hlt : (k : Int) < l.length:=by omega
      have hk0 : ((k + 1 : Nat) : Int) - 1 = (k : Nat):=by omega
      obtain ⟨f',o',h1,h2⟩:=spans_last s (l.take k) (-9223372036854775808) off
      have htl : (l.take k).length = k:=by rw[List.length_take];omega
      rw[htl] at h1 h2
      have hts : l.take (k + 1) = l.take k ++ [s]:=by rw[List.take_add_one,hc];rfl
      rw[← hts] at h2
      have hrows : ((spansF (-9223372036854775808) off (l.take k)).map spnR).set k [.int .i64 f',.int .i64 s.1,.int .i64 o'] ++ [[.int .i64 s.1,.int .i64 9223372036854775807,.int .i64 s.2]] = (spansF (-9223372036854775808) off (l.take (k + 1))).map spnR:=by
        rw[h2,List.map_append,List.map_set];rfl
      simp (disch:=first|omega|(simp only[lenT];omega)) only[hc,hlt,shR,hsl,hk0,h1,spnR,Int.toNat_natCast,wrap_i64,decide_true,List.length_set,evSt,↓eA,eB,evU,seval]
      have hk1 : (k : Int) + 1 = ((k + 1 : Nat) : Int):=by omega
      refine ⟨by unfold roomA;omega,(k + 1,ver + 1),by simp only;omega,by simp only;omega,back_under ?_ (by simp only[hk1,↓eA,eB,evU,seval]) (by simp [V.under])⟩
      simp only
      rw[← hrows]
      exact hn.fgtL (L:=[_,_]) (L1:=[_]) ⟨rfl,⟨_,rfl,.imm (fun r hr=>by rw[hrows] at hr;exact spnR_imm _ r hr)⟩,trivial⟩
theorem utc_A (off : Int) (l : List (Int × Int)) (m : Int) (hl : l.length ≤ 100000) (S : Store) : CallA Tryz.prog 112 [.agg [.int .i64 off,.sl 2 (l.map shR)],.int .i64 m] S fun r S'=>r = .int .i64 (utcF off l m) ∧ S' = S:=by
  refine CallA.withNeat Tryz.func112 c612 fun hn=>?_
  refine CallA.fin Tryz.func112 c612 (Nat.le_of_ble_eq_true rfl) fun σ hσ=>?_
  simp (disch:=first|omega|(simp only[lenT];omega)) only[a612,evSt,↓eA,eB,evU,seval]
  refine (spans_A off l hl S).then ?_
  have hsl:=spans_ne (-9223372036854775808) off l
  have htop:=utcS_top m off l 0
  generalize spansF (-9223372036854775808) off l = sp at hsl htop
  simp (disch:=first|omega|(simp only[lenT];omega)) only[evSt,↓eA,eB,evU,seval]
  refine loopF (ι:=Nat × Int) (fun i=>[(1,.int .i64 m),(5,.int .i64 i.2),(9,.sl 3 (sp.map spnR)),(10,.int .i64 sp.length),(11,.int .i64 (i.1 : Nat))]) (fun _=>S) (fun i=>i.1 ≤ sp.length ∧ utcS m (sp.drop i.1) i.2 = utcF off l m) (fun i=>sp.length - i.1) (fun i hi=>by rw[hσ];exact Nat.le_refl _) (0,0) ⟨Nat.zero_le _,htop⟩ (.inl ⟨?_,rfl⟩) ?_
  · simp only[↓eA,eB,evU,seval]
  · rintro ⟨k,u⟩ ⟨hk,hu⟩
    simp only at hk hu ⊢
    cases hc : sp[k]? with
    | none =>
      have hge : sp.length ≤ k:=List.getElem?_eq_none_iff.1 hc
      have hlt : ¬ ((k : Int) < sp.length):=by omega
      rw[List.drop_eq_nil_of_le hge,utcS] at hu
      simp (disch:=first|omega|(simp only[lenT];omega)) only[hlt,hu,decide_false,evSt,↓eA,eB,evU,seval]
      exact ⟨_,S,hn.self,.imm rfl,Nat.le_refl _,rfl,rfl⟩
    | some s =>
      have hlt':=(List.getElem?_eq_some_iff.1 hc).1
      have hlt : (k : Int) < sp.length:=by omega
      have hd : sp.drop k = s :: sp.drop (k + 1):=by
        obtain ⟨_,rfl⟩:=List.getElem?_eq_some_iff.1 hc
        exact List.drop_eq_getElem_cons hlt'
      rw[hd,utcS] at hu
      simp (disch:=first|omega|(simp only[lenT];omega)) only[hc,hlt,spnR,decide_true,evSt,↓eA,eB,evU,seval]
      change (if max s.1 (IntKind.i64.wrap (m - s.2.2)) < s.2.1 then max s.1 (IntKind.i64.wrap (m - s.2.2)) else utcS m (sp.drop (k + 1)) (max s.1 (IntKind.i64.wrap (m - s.2.2)))) = _ at hu
      refine ⟨fun h=>?_,fun h=>?_⟩
      · rw[if_pos h] at hu
        exact ⟨_,S,hn.fgt _,.imm rfl,Nat.le_refl _,by rw[hu],rfl⟩
      · rw[if_neg (by omega)] at hu
        have hk1 : IntKind.i64.wrap ((k : Int) + 1) = ((k + 1 : Nat) : Int):=wrap_i64 (by omega) (by omega)
        refine ⟨(k + 1,_),⟨by simp only;omega,hu⟩,by simp only;omega,back_under (hn.fgt _) (by simp only[hk1,↓eA,eB,evU,seval]) (by simp [V.under])⟩
theorem utcG_end {l : List (Int × Int)} {k : Nat} {u m x : Int} (h : utcG u (l.drop k) m = x) (hc : l[k]? = none) : u = x:=by
  rw[List.drop_eq_nil_of_le (List.getElem?_eq_none_iff.1 hc),utcG] at h
  exact h
theorem utcG_at {l : List (Int × Int)} {k : Nat} {u m x : Int} {s : Int × Int} (h : utcG u (l.drop k) m = x) (hc : l[k]? = some s) : (if u < s.1 then u else utcG (max s.1 (w64 (m - s.2))) (l.drop (k + 1)) m) = x:=by
  have hd : l.drop k = s :: l.drop (k + 1):=by
    obtain ⟨hlt,rfl⟩:=List.getElem?_eq_some_iff.1 hc
    exact List.drop_eq_getElem_cons hlt
  rw[hd,utcG] at h
  exact h
theorem rutc_A (off : Int) (l : List (Int × Int)) (m : Int) (hl : l.length ≤ 100000) (S : Store) : CallA Tryz.prog 170 [.agg [.int .i64 off,.sl 2 (l.map shR)],.int .i64 m] S fun r S'=>r = .int .i64 (utcF off l m) ∧ S' = S:=by
  refine CallA.keep Tryz.func170 c670 (Nat.le_of_ble_eq_true rfl) fun σ hσ=>?_
  simp (disch:=first|omega|(simp only[lenT];omega)) only[a670,evSt,↓eA,eB,evU,seval]
  refine loopA (ι:=Nat × Int) (fun i=>[(1,.int .i64 m),(2,.cptr [.int .i64 off,.sl 2 (l.map shR)]),(5,.int .i64 i.2),(6,.int .i64 (i.1 : Nat))]) (fun _=>S) (fun i=>i.1 ≤ l.length ∧ utcG i.2 (l.drop i.1) m = utcF off l m) (fun i=>l.length - i.1) (0,w64 (m - off)) ⟨Nat.zero_le _,rfl⟩ ?_ rfl ?_
  · simp only[w64,↓eA,eB,evU,seval]
  · rintro ⟨k,u⟩ ⟨hk,hu⟩
    simp only at hk hu ⊢
    cases hc : l[k]? with
    | none =>
      have hge : l.length ≤ k:=List.getElem?_eq_none_iff.1 hc
      have hlt : ¬ ((k : Int) < l.length):=by omega
      have hu:=utcG_end hu hc
      simp (disch:=first|omega|(simp only[lenT];omega)) only[hlt,hu,decide_false,evSt,↓eA,eB,evU,seval]
    | some s =>
      have hlt':=(List.getElem?_eq_some_iff.1 hc).1
      have hlt : (k : Int) < l.length:=by omega
      have hu:=utcG_at hu hc
      have hk1 : IntKind.i64.wrap ((k : Int) + 1) = ((k + 1 : Nat) : Int):=wrap_i64 (by omega) (by omega)
      by_cases h : u < s.1
      · rw[if_pos h] at hu
        simp (disch:=first|omega|(simp only[lenT];omega)) only[hc,hlt,dT h,shR,decide_true,evSt,↓eA,eB,evU,seval]
        exact hu
      · rw[if_neg h] at hu
        simp (disch:=first|omega|(simp only[lenT];omega)) only[hc,hlt,dF h,hk1,shR,decide_true,evSt,↓eA,eB,evU,seval]
        exact ⟨(k + 1,_),⟨by simp only;omega,hu⟩,by simp only;omega,rfl,rfl⟩
theorem nil_sl {ρ : AL.Place} {S : Store} {w : World} {b : Bool} {u : Value} (h : VR ρ S w b (.agg [.int .i64 0,.nilSl]) u) : VR ρ S w b (.agg [.int .i64 0,.sl 2 []]) u:=by
  cases h with
  | agg c hl hc hv =>
    refine .agg c hl (fun j v hj=>?_) fun j v hj=>?_
    · match j,hj with
      | 0,hj=>exact hc 0 _ rfl
      | 1,hj=>exact hc 1 _ rfl
    · match j,hj with
      | 0,hj=>cases hj;exact hv 0 _ rfl
      | 1,hj =>
        cases hj
        have:=hv 1 _ rfl
        generalize c 1 = x at this
        cases this
        exact .slNil
theorem zone_args {ρ : AL.Place} {S : Store} {w : World} {m : V} {us : Array Value} (h : VRs ρ S w [.agg [.int .i64 0,.nilSl],m] us) : VRs ρ S w [.agg [.int .i64 0,.sl 2 []],m] us :=
  ⟨h.1,fun j v hj=>match j,hj with
    | 0,hj=>by cases hj;obtain ⟨u,a,b⟩:=h.2 0 _ rfl;exact ⟨u,a,nil_sl b⟩
    | 1,hj=>h.2 1 v hj⟩
theorem utc0_A (m : Int) (S : Store) : CallA Tryz.prog 112 [.agg [.int .i64 0,.nilSl],.int .i64 m] S fun r S'=>r = .int .i64 (utcF 0 [] m) ∧ S' = S:=of_args (utc_A 0 [] m (Nat.zero_le _) S) fun _ _ _ h=>zone_args h
theorem rutc0_A (m : Int) (S : Store) : CallA Tryz.prog 170 [.agg [.int .i64 0,.nilSl],.int .i64 m] S fun r S'=>r = .int .i64 (utcF 0 [] m) ∧ S' = S:=of_args (rutc_A 0 [] m (Nat.zero_le _) S) fun _ _ _ h=>zone_args h
structure POk (p : Pls) : Prop where
  h1 : p.1.length ≤ 1100000
  h2 : ∀ a ∈ p.1,a.sh.length ≤ 100000
theorem find_mem {p : Pls} {c : Txt} {a : Apt} (h : findF p c = some a) : a ∈ p.1:=List.mem_of_find?_eq_some h
theorem find_zone (p : Pls) (hp : POk p) (c : Txt) : ∃ c1 c2 c3 off sv,findR (findF p c) = .tup [.agg [.str c1,.str c2,.str c3,.int .i64 off,sv],.bool (findF p c).isSome] ∧ sv.isImm = true ∧ sv.cellOk = true ∧
    (∀ (day m : Int) (S : Store),CallA Tryz.prog 112 [.agg [.int .i64 off,sv],.int .i64 (IntKind.i64.wrap (IntKind.i64.wrap (day * 1440) + m))] S fun r S'=>r = .int .i64 (atF p c day m) ∧ S' = S) ∧
    (∀ (day m : Int) (S : Store),CallA Tryz.prog 170 [.agg [.int .i64 off,sv],.int .i64 (IntKind.i64.wrap (IntKind.i64.wrap (day * 1440) + m))] S fun r S'=>r = .int .i64 (atF p c day m) ∧ S' = S):=by
  cases h : findF p c with
  | none =>
    refine ⟨[],[],[],0,.nilSl,rfl,rfl,rfl,fun day m S=>?_,fun day m S=>?_⟩
    · rw[show atF p c day m = utcF 0 [] (IntKind.i64.wrap (IntKind.i64.wrap (day * 1440) + m)) from by unfold atF;rw[h];rfl]
      exact utc0_A _ S
    · rw[show atF p c day m = utcF 0 [] (IntKind.i64.wrap (IntKind.i64.wrap (day * 1440) + m)) from by unfold atF;rw[h];rfl]
      exact rutc0_A _ S
  | some a =>
    refine ⟨a.code,a.city,a.cty,a.off,.sl 2 (a.sh.map shR),rfl,?_,rfl,fun day m S=>?_,fun day m S=>?_⟩
    · rfl
    · rw[show atF p c day m = utcF a.off a.sh (IntKind.i64.wrap (IntKind.i64.wrap (day * 1440) + m)) from by unfold atF;rw[h];rfl]
      exact utc_A _ _ _ (hp.h2 a (find_mem h)) S
    · rw[show atF p c day m = utcF a.off a.sh (IntKind.i64.wrap (IntKind.i64.wrap (day * 1440) + m)) from by unfold atF;rw[h];rfl]
      exact rutc_A _ _ _ (hp.h2 a (find_mem h)) S
theorem timeC_A (p : Pls) (hp : POk p) (l : Lg) (day : Int) (S : Store) : CallA Tryz.prog 62 [plV p,.agg (lgR l),.int .i64 day] S fun r S'=>r = .tup [.int .i64 (atF p l.f day l.dep),.int .i64 (atF p l.t day l.arr)] ∧ S' = S:=by
  refine CallA.withNeat Tryz.func62 c562 fun hn=>?_
  refine CallA.fin Tryz.func62 c562 (Nat.le_of_ble_eq_true rfl) fun σ hσ=>?_
  obtain ⟨c1,c2,c3,o1,v1,e1,i1,k1,z1,_⟩:=find_zone p hp l.f
  obtain ⟨c4,c5,c6,o2,v2,e2,i2,k2,z2,_⟩:=find_zone p hp l.t
  have f1:=fun S=>find_A p l.f S hp.h1
  have f2:=fun S=>find_A p l.t S hp.h1
  simp only[plV,e1] at f1
  simp only[plV,e2] at f2
  simp (disch:=first|omega|(simp only[lenT];omega)) only[a562,plV,lgR,evSt,↓eA,eB,evU,seval]
  refine (f1 S).then ?_
  simp (disch:=first|omega|(simp only[lenT];omega)) only[i1,k1,evSt,↓eA,eB,evU,seval]
  refine (f2 _).then ?_
  simp (disch:=first|omega|(simp only[lenT];omega)) only[i1,k1,i2,k2,evSt,↓eA,eB,evU,seval]
  refine exD.intro (z1 _ _ _) ?_
  simp (disch:=first|omega|(simp only[lenT];omega)) only[evSt,↓eA,eB,evU,seval]
  refine (z2 _ _ _).then ?_
  simp (disch:=first|omega|(simp only[lenT];omega)) only[evSt,↓eA,eB,evU,seval]
  exact ⟨_,S,hn.fgt _,.imm rfl,Nat.le_refl _,rfl,rfl⟩
theorem rtime_A (p : Pls) (hp : POk p) (c : Txt) (day m : Int) (S : Store) : CallA Tryz.prog 143 [plV p,.str c,.int .i64 day,.int .i64 m] S fun r S'=>r = .int .i64 (atF p c day m) ∧ S' = S:=by
  refine CallA.withNeat Tryz.func143 c643 fun hn=>?_
  refine CallA.fin Tryz.func143 c643 (Nat.le_of_ble_eq_true rfl) fun σ hσ=>?_
  obtain ⟨c1,c2,c3,o1,v1,e1,i1,k1,_,z1⟩:=find_zone p hp c
  have f1:=fun S=>rfind_A p c S hp.h1
  simp only[plV,e1] at f1
  simp (disch:=first|omega|(simp only[lenT];omega)) only[a643,plV,evSt,↓eA,eB,evU,seval]
  refine (f1 S).then ?_
  simp (disch:=first|omega|(simp only[lenT];omega)) only[i1,k1,evSt,↓eA,eB,evU,seval]
  refine (z1 _ _ _).then ?_
  simp (disch:=first|omega|(simp only[lenT];omega)) only[evSt,↓eA,eB,evU,seval]
  exact ⟨_,S,hn.fgt _,.imm rfl,Nat.le_refl _,rfl,rfl⟩
theorem dtR_imm (l : List Dt) : ∀ r ∈ l.map dtR,r.length = 8 ∧ V.allImm r = true:=fun r hr=>by
  obtain ⟨x,_,rfl⟩:=List.mem_map.1 hr
  exact ⟨rfl,rfl⟩
theorem sgR_imm (l : List Sg) : ∀ r ∈ l.map sgR,r.length = 7 ∧ V.allImm r = true:=fun r hr=>by
  obtain ⟨x,_,rfl⟩:=List.mem_map.1 hr
  exact ⟨rfl,rfl⟩
theorem take_at {α : Type} {l : List α} {k : Nat} {x : α} (h : l[k]? = some x) : l.take (k + 1) = l.take k ++ [x]:=by
  rw[List.take_add_one,h]
  rfl
def legsD (p : Pls) (x : Fl) (day : Int) : List Dt × Int:=if hasF x.p day then (legsF p x day,0) else ([],12)
theorem legs_A (p : Pls) (hp : POk p) (x : Fl) (day : Int) (hl : x.legs.length ≤ 100000) (S : Store) : CallA Tryz.prog 18 [plV p,.agg (flR x),.int .i64 day] S fun r S'=>r = .tup [.sl 8 ((legsD p x day).1.map dtR),.int .i64 (legsD p x day).2] ∧ S' = S:=by
  refine CallA.withNeat Tryz.func18 c518 fun hn=>?_
  refine CallA.fin Tryz.func18 c518 (Nat.le_of_ble_eq_true rfl) fun σ hσ=>?_
  have hh:=fun S=>has_A x.p day S
  have ht:=fun l S=>timeC_A p hp l day S
  simp only[pdR,plV,lgR] at hh ht
  simp (disch:=first|omega|(simp only[lenT];omega)) only[a518,plV,flR,evSt,↓eA,eB,evU,seval]
  refine (hh S).then ?_
  by_cases hd : hasF x.p day = true
  · have hL : legsD p x day = (legsF p x day,0):=by unfold legsD;rw[if_pos hd]
    rw[hL]
    simp (disch:=first|omega|(simp only[lenT];omega)) only[hd,evSt,↓eA,eB,evU,seval]
    refine ⟨by simp [roomA];omega,?_⟩
    have hlen : (legsF p x day).length = x.legs.length:=by simp [legsF]
    refine loopF (ι:=Nat) (fun k=>[(2,.int .i64 day),(3,.cptr [.sl 5 (p.1.map aptR),.sl 3 (p.2.map dstR)]),(4,.cptr (flR x)),(8,.msl S.length k 0 k),(23,.sl 5 (x.legs.map lgR)),(24,.int .i64 x.legs.length),(25,.int .i64 (k : Nat))]) (fun k=>S ++ [⟨k,some (.arr 45 8 (((legsF p x day).take k).map dtR))⟩]) (fun k=>k ≤ x.legs.length) (fun k=>x.legs.length - k) (fun i hi=>by rw[hσ];simp) 0 (Nat.zero_le _) (.inl ⟨?_,by simp [zrows]⟩) ?_
    · simp only[flR,↓eA,eB,evU,seval]
    intro k hk
    cases hc : x.legs[k]? with
    | none =>
      have hge : x.legs.length ≤ k:=List.getElem?_eq_none_iff.1 hc
      have hlt : ¬ ((k : Int) < x.legs.length):=by omega
      simp (disch:=first|omega|(simp only[lenT];omega)) only[hlt,decide_false,evSt,↓eA,eB,evU,seval]
      refine ⟨_,S,hn.fgt _,.tup2 (.sl (t:=45) (Nat.le_refl _) (by rw[ob_app0,ob_head]) (by simp;omega) (dtR_imm _)) (.imm rfl),Nat.le_refl _,?_,rfl⟩
      rw[List.take_of_length_le (by omega)]
    | some l =>
      have hlt':=(List.getElem?_eq_some_iff.1 hc).1
      have hlt : (k : Int) < x.legs.length:=by omega
      have hd : (legsF p x day)[k]? = some (datF p x day l):=by simp [legsF,hc]
      have hrows : ((legsF p x day).take k).map dtR ++ [dtR (datF p x day l)] = ((legsF p x day).take (k + 1)).map dtR:=by rw[take_at hd,List.map_append];rfl
      have hrl : (((legsF p x day).take k).map dtR).length = k:=by simp;omega
      simp (disch:=first|omega|(simp only[lenT];omega)) only[hc,hlt,flR,lgR,decide_true,evSt,↓eA,eB,evU,seval]
      refine (ht l _).then ?_
      simp (disch:=first|omega|(simp only[lenT];omega)) only[wrap_i64,decide_true,evSt,↓eA,eB,evU,seval]
      have hk1 : (k : Int) + 1 = ((k + 1 : Nat) : Int):=by omega
      refine ⟨by simp;omega,by simp [roomA];omega,k + 1,by omega,by omega,back_under ?_ (by simp only[hk1,↓eA,eB,evU,seval]) (by simp [V.under])⟩
      have himm : ∀ r ∈ ((legsF p x day).take k).map dtR ++ [dtR (datF p x day l)],r.length = 8 ∧ V.allImm r = true:=fun r hr=>by rw[hrows] at hr;exact dtR_imm _ r hr
      rw[← hrows]
      exact hn.fgtL (L:=[_,_]) (L1:=[_]) ⟨rfl,⟨_,rfl,.imm himm⟩,trivial⟩
  · have hL : legsD p x day = ([],12):=by unfold legsD;rw[if_neg hd]
    have hd : hasF x.p day = false:=by simpa using hd
    rw[hL]
    simp (disch:=first|omega|(simp only[lenT];omega)) only[hd,evSt,↓eA,eB,evU,seval]
    exact ⟨_,S,hn.self,.tup2 .nil (.imm rfl),Nat.le_refl _,rfl,rfl⟩
def lgS (S : Store) (rows : List (List V)) : Nat → Store
  | 0=>S
  | k + 1=>S ++ [⟨0,none⟩,⟨k,some (.arr 45 8 (rows.take (k + 1)))⟩]
def lgV (n : Nat) : Nat → V
  | 0=>.nilSl
  | k + 1=>.msl (n + 1) k 0 (k + 1)
theorem rlegs0_A (p : Pls) (hp : POk p) (x : Fl) (day : Int) (hl : x.legs.length ≤ 100000) (S : Store) : CallA Tryz.prog 103 [plV p,.agg (flR x),.int .i64 day] S fun r S'=>r = .sl 8 ((legsF p x day).map dtR) ∧ S' = S:=by
  refine CallA.withNeat Tryz.func103 c603 fun hn=>?_
  refine CallA.fin Tryz.func103 c603 (Nat.le_of_ble_eq_true rfl) fun σ hσ=>?_
  have ht:=fun c m S=>rtime_A p hp c day m S
  simp only[plV] at ht
  have hlen : (legsF p x day).length = x.legs.length:=by simp [legsF]
  simp (disch:=first|omega|(simp only[lenT];omega)) only[a603,plV,flR,evSt,↓eA,eB,evU,seval]
  refine loopF (ι:=Nat) (fun k=>[(2,.int .i64 day),(3,.cptr [.sl 5 (p.1.map aptR),.sl 3 (p.2.map dstR)]),(4,.cptr (flR x)),(7,lgV S.length k),(8,.int .i64 (k : Nat))]) (lgS S ((legsF p x day).map dtR)) (fun k=>k ≤ x.legs.length) (fun k=>x.legs.length - k) (fun i hi=>by rw[hσ];cases i<;>simp [lgS]) 0 (Nat.zero_le _) (.inl ⟨?_,rfl⟩) ?_
  · simp only[flR,lgV,↓eA,eB,evU,seval]
  intro k hk
  cases hc : x.legs[k]? with
  | none =>
    have hge : x.legs.length ≤ k:=List.getElem?_eq_none_iff.1 hc
    have hlt : ¬ ((k : Int) < x.legs.length):=by omega
    simp (disch:=first|omega|(simp only[lenT];omega)) only[flR,hlt,decide_false,evSt,↓eA,eB,evU,seval]
    cases k with
    | zero =>
      have h0 : legsF p x day = []:=List.eq_nil_of_length_eq_zero (by omega)
      rw[h0]
      exact ⟨_,S,hn.self,.nil,Nat.le_refl _,rfl,rfl⟩
    | succ k =>
      refine ⟨_,S,hn.fgt _,.sl (t:=45) (rows:=((legsF p x day).map dtR).take (k + 1)) (by omega) (by rw[lgS,ob_app,ob_cons,ob_head]) (by simp;omega) (fun r hr=>dtR_imm (legsF p x day) r (List.mem_of_mem_take hr)),Nat.le_refl _,?_,rfl⟩
      rw[List.take_of_length_le (by simp;omega)]
  | some l =>
    have hlt':=(List.getElem?_eq_some_iff.1 hc).1
    have hlt : (k : Int) < x.legs.length:=by omega
    have hd : ((legsF p x day).map dtR)[k]? = some (dtR (datF p x day l)):=by simp [legsF,hc]
    have hrows:=take_at hd
    have hk1 : (k : Int) + 1 = ((k + 1 : Nat) : Int):=by omega
    cases k with
    | zero =>
      have hlt0 : (0 : Int) < x.legs.length:=by omega
      simp (disch:=first|omega|(simp only[lenT];omega)) only[lgS,lgV,hc,hlt0,flR,lgR,decide_true,evSt,↓eA,eB,evU,seval]
      refine exD.intro (ht l.f l.dep _) ?_
      simp (disch:=first|omega|(simp only[lenT];omega)) only[evSt,↓eA,eB,evU,seval]
      refine exD.intro (ht l.t l.arr _) ?_
      simp (disch:=first|omega|(simp only[lenT];omega)) only[wrap_i64,evSt,↓eA,eB,evU,seval]
      refine ⟨by simp [roomA],1,by omega,by omega,back_under ?_ (by simp only[lgV,↓eA,eB,evU,seval]) (by simp [V.under,lgV])⟩
      show Fgt _ (S ++ [⟨0,none⟩,⟨0,some (.arr 45 8 (((legsF p x day).take (0 + 1)).map dtR))⟩])
      rw[List.map_take,hrows]
      exact hn.fgtL (L:=[_,_]) (L1:=[_,_]) ⟨rfl,trivial,rfl,⟨_,rfl,.imm (dtR_imm [datF p x day l])⟩,trivial⟩
    | succ k =>
      simp (disch:=first|omega|(simp only[lenT];omega)) only[lgS,lgV,hc,hlt,flR,lgR,decide_true,evSt,↓eA,eB,evU,seval]
      refine exD.intro (ht l.f l.dep _) ?_
      simp (disch:=first|omega|(simp only[lenT];omega)) only[evSt,↓eA,eB,evU,seval]
      refine exD.intro (ht l.t l.arr _) ?_
      simp (disch:=first|omega|(simp only[lenT];omega)) only[wrap_i64,hk1,evSt,↓eA,eB,evU,seval]
      have hrows2 : ((legsF p x day).take (k + 1 + 1)).map dtR = ((legsF p x day).take (k + 1)).map dtR ++ [dtR (datF p x day l)]:=by rw[List.map_take,hrows,List.map_take]
      have himm : ∀ r ∈ ((legsF p x day).take (k + 1)).map dtR ++ [dtR (datF p x day l)],r.length = 8 ∧ V.allImm r = true:=fun r hr=>by rw[← hrows2] at hr;exact dtR_imm _ r hr
      refine ⟨by simp;omega,by simp [roomA];omega,k + 2,by omega,by omega,back_under ?_ (by simp only[lgV,↓eA,eB,evU,seval]) (by simp [V.under,lgV])⟩
      show Fgt _ (S ++ [⟨0,none⟩,⟨k + 1,some (.arr 45 8 (((legsF p x day).take (k + 1 + 1)).map dtR))⟩])
      rw[hrows2]
      exact hn.fgtL (L:=[_,_,_]) (L1:=[_,_]) ⟨rfl,trivial,rfl,⟨_,rfl,.imm himm⟩,trivial⟩
theorem rlegs_A (p : Pls) (hp : POk p) (x : Fl) (day : Int) (hl : x.legs.length ≤ 100000) (S : Store) : CallA Tryz.prog 69 [plV p,.agg (flR x),.int .i64 day] S fun r S'=>r = .tup [.sl 8 ((legsD p x day).1.map dtR),.int .i64 (legsD p x day).2] ∧ S' = S:=by
  refine CallA.back Tryz.func69 c569 (Nat.le_of_ble_eq_true rfl) (R:=fun r=>r = .tup [.sl 8 ((legsD p x day).1.map dtR),.int .i64 (legsD p x day).2]) fun σ hσ hn=>?_
  have hh:=fun S=>rhas_A x.p day S
  have hg:=fun S=>rlegs0_A p hp x day hl S
  simp only[pdR,plV,flR] at hh hg
  simp (disch:=first|omega|(simp only[lenT];omega)) only[a569,plV,flR,evSt,↓eA,eB,evU,seval]
  refine (hh S).then ?_
  by_cases hd : hasF x.p day = true
  · have hL : legsD p x day = (legsF p x day,0):=by unfold legsD;rw[if_pos hd]
    rw[hL]
    simp (disch:=first|omega|(simp only[lenT];omega)) only[hd,evSt,↓eA,eB,evU,seval]
    refine (hg S).then ?_
    simp (disch:=first|omega|(simp only[lenT];omega)) only[evSt,↓eA,eB,evU,seval]
    exact ⟨_,⟨[],by simp⟩,.imm rfl,rfl⟩
  · have hL : legsD p x day = ([],12):=by unfold legsD;rw[if_neg hd]
    have hd : hasF x.p day = false:=by simpa using hd
    rw[hL]
    simp (disch:=first|omega|(simp only[lenT];omega)) only[hd,evSt,↓eA,eB,evU,seval]
    exact ⟨_,⟨[],by simp⟩,.tup2 .nil (.imm rfl),rfl⟩
theorem rseg_A (l : List Dt) (i k : Nat) (a b : Dt) (ha : l[i]? = some a) (hb : l[k]? = some b) (hl : l.length ≤ 1000000) (S : Store) : CallA Tryz.prog 115 [.sl 8 (l.map dtR),.int .i64 (i : Nat),.int .i64 (k : Nat)] S fun r S'=>r = .agg (sgR (segOf a b)) ∧ S' = S:=by
  refine CallA.back Tryz.func115 c615 (Nat.le_of_ble_eq_true rfl) (R:=fun r=>r = .agg (sgR (segOf a b))) fun σ hσ hn=>?_
  have h1:=(List.getElem?_eq_some_iff.1 ha).1
  have h2:=(List.getElem?_eq_some_iff.1 hb).1
  simp (disch:=first|omega|(simp only[lenT];omega)) only[a615,ha,hb,dtR,evSt,↓eA,eB,evU,seval]
  exact ⟨_,⟨_,rfl⟩,.imm rfl,rfl⟩
end Go.Proofs.YtiihkfjbllpiaaaGreatDoor
