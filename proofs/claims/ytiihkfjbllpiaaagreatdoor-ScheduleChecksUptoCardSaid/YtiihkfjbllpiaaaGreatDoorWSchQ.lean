/- flight.Check: what is wrong with a flight. -/
import Derived.Test.YtiihkfjbllpiaaaGreatDoorWSchP
namespace Go.Proofs.YtiihkfjbllpiaaaGreatDoor
open Go Go.AL
set_option linter.unusedSectionVars false
variable [Go.AL.Mode] [Go.AL.LooseM]
set_option linter.unusedSimpArgs false
set_option linter.unusedVariables false
def addS (S : Store) (rows : List (List V)) : Store:=S ++ ⟨0,some (.arr 29 1 [[accV (S.length + 1) rows]])⟩ :: accT 78 2 rows
theorem addS_nil (S : Store) : S ++ [⟨0,some (.arr 29 1 [[.nilSl]])⟩] = addS S []:=rfl
theorem addS_obj (S : Store) (rows : List (List V)) : (addS S rows).obj? S.length 0 = some (29,1,[[accV (S.length + 1) rows]]):=by rw[addS,ob_app0,ob_head]
theorem add_A (e : Int) (t : Txt) (rows : List (List V)) (hr : rows.length < 1000000) (S : Store) : CallA Tryz.prog 88 [.int .i64 e,.str t,.ptr S.length 0 0 0] (addS S rows) fun r S'=>r = .tup [] ∧ S' = addS S (rows ++ [[.int .i64 e,.str t]]):=by
  refine CallA.keep Tryz.func88 c588 (Nat.le_of_ble_eq_true rfl) fun σ hσ=>?_
  cases rows with
  | nil =>
    simp (disch:=first|omega|(simp only[lenT];omega)) only[addS,accV,accT,a588,List.nil_append,List.length_nil,evSt,↓eA,eB,evU,seval]
    simp [roomA]
  | cons r rs =>
    simp only[List.length_cons] at hr
    simp (disch:=first|omega|(simp only[lenT];omega)) only[addS,accV,accT,a588,List.cons_append,evSt,↓eA,eB,evU,seval]
    exact ⟨by unfold roomA;omega,by simp⟩
theorem share_if {P : Program} {N : Nat} {σ : Base} {G : Prop} (H : Prop) (E0 : Env) (S0 : Store) (b : ACode) (Q : Exit → Env → Store → Prop) (k2 : (H → LoopA P N σ b Q E0 S0) → G) (k1 : H → LoopA P N σ b Q E0 S0) : G:=k2 k1
theorem len_acc (S : Store) (n : Nat) (rows : List (List V)) : lenAV S (accV n rows) = some (.int .i64 (rows.length : Nat)):=by
  cases rows<;>rfl
def txC : Txt:=[99,97,114,114,105,101,114]
def txN : Txt:=[110,117,109,98,101,114]
def txP : Txt:=[112,101,114,105,111,100]
def txL : Txt:=[108,101,103,115]
def txLeg : Txt:=[108,101,103,32]
def txDay : Txt:=[100,97,121,32]
def hd1 (x : Fl) : List Ft:=if carF x.c then [] else [⟨5,txC⟩]
def hd2 (x : Fl) : List Ft:=hd1 x ++ if x.n < 1 ∨ 9999 < x.n then [⟨2,txN⟩] else []
def hdErr (x : Fl) : List Ft:=hd2 x ++ if pdF x.p ≠ 0 then [⟨pdF x.p,txP⟩] else []
def legsErr (p : Pls) (L : List Lg) : Nat → List Ft
  | 0=>[]
  | k + 1=>legsErr p L k ++ match L[k]? with
    | some l=>(legErr p L k l).map fun e=>⟨e,txLeg ++ decB k⟩
    | none=>[]
theorem legErr_len (p : Pls) (L : List Lg) (i : Nat) (l : Lg) : (legErr p L i l).length ≤ 4:=by
  unfold legErr
  simp only[List.length_append]
  split<;>split<;>split<;>split<;>simp
theorem legsErr_len (p : Pls) (L : List Lg) : ∀ k,(legsErr p L k).length ≤ 4 * k
  | 0=>by simp [legsErr]
  | k + 1=>by
    have h:=legsErr_len p L k
    rw[legsErr,List.length_append]
    cases hc : L[k]? with
    | none=>simp only[List.length_nil];omega
    | some l=>have:=legErr_len p L k l;simp only[List.length_map];omega
theorem hd1_len (x : Fl) : (hd1 x).length ≤ 1:=by unfold hd1;split<;>simp
theorem hd2_len (x : Fl) : (hd2 x).length ≤ 2:=by have:=hd1_len x;unfold hd2;rw[List.length_append];split<;>simp<;>omega
theorem hdErr_len (x : Fl) : (hdErr x).length ≤ 3:=by have:=hd2_len x;unfold hdErr;rw[List.length_append];split<;>simp<;>omega
def badDay (p : Pls) (x : Fl) (d : Int) : Bool:=!ordL none (legsF p x d)
def dayErr (p : Pls) (x : Fl) (T : Int → Txt) : List Ft:=match (daysF x.p).find? (badDay p x) with
  | some d=>[⟨13,txDay ++ T d⟩]
  | none=>[]
def flErr (p : Pls) (x : Fl) (T : Int → Txt) : List Ft :=
  if x.legs.length = 0 ∨ 6 < x.legs.length then hdErr x ++ [⟨4,txL⟩] else if hdErr x ++ legsErr p x.legs x.legs.length = [] then dayErr p x T else hdErr x ++ legsErr p x.legs x.legs.length
theorem ftR_imm (l : List Ft) : ∀ r ∈ l.map ftR,r.length = 2 ∧ V.allImm r = true:=fun r hr=>by
  obtain ⟨x,_,rfl⟩:=List.mem_map.1 hr
  exact ⟨rfl,rfl⟩
theorem addS_frz (S : Store) (rows : List (List V)) (hr : ∀ r ∈ rows,r.length = 2 ∧ V.allImm r = true) : Frz (addS S rows) S (accV (S.length + 1) rows) (.sl 2 rows):=by
  cases rows with
  | nil=>exact .nil
  | cons x rows=>exact .sl (t:=78) (by omega) (by rw[addS,ob_app,ob_cons,accT,ob_head]) (by simp) hr
set_option maxHeartbeats 4000000 in
theorem flight_A (p : Pls) (hp : POk p) (x : Fl) (hl : x.legs.length ≤ 1100000) (T : Int → Txt) (hP : ∀ d ∈ daysF x.p,badDay p x d = true → ∀ S,CallA Tryz.prog 93 [.int .i64 d] S fun r S'=>r = .str (T d) ∧ S' = S) (hT : ∀ d,(T d).length ≤ 100) (S : Store) :
    CallA Tryz.prog 46 [plV p,.agg (flR x)] S fun r S'=>r = .sl 2 ((flErr p x T).map ftR) ∧ S' = S:=by
  refine CallA.withNeat Tryz.func46 c546 fun hn=>?_
  refine CallA.fin Tryz.func46 c546 (Nat.le_of_ble_eq_true rfl) fun σ hσ=>?_
  have hcar:=fun S=>carrierT_A x.c S
  have hck:=fun S=>check_A x.p S
  simp only[pdR] at hck
  simp (disch:=first|omega|(simp only[lenT];omega)) only[a546,plV,flR,addS_nil,evSt,↓eA,eB,evU,seval]
  have a1 : carF x.c = true → addS S [] = addS S ((hd1 x).map ftR):=fun h=>by simp [hd1,h]
  have a2 : carF x.c = false → addS S ([] ++ [[.int .i64 5,.str txC]]) = addS S ((hd1 x).map ftR):=fun h=>by simp [hd1,h,ftR]
  have a3 : ¬ (x.n < 1 ∨ 9999 < x.n) → addS S ((hd1 x).map ftR) = addS S ((hd2 x).map ftR):=fun h=>by simp [hd2,h]
  have a4 : x.n < 1 ∨ 9999 < x.n → addS S ((hd1 x).map ftR ++ [[.int .i64 2,.str txN]]) = addS S ((hd2 x).map ftR):=fun h=>by simp [hd2,h,ftR]
  have a5 : pdF x.p = 0 → addS S ((hd2 x).map ftR) = addS S ((hdErr x).map ftR):=fun h=>by simp [hdErr,h]
  have a6 : pdF x.p ≠ 0 → addS S ((hd2 x).map ftR ++ [[.int .i64 (pdF x.p),.str txP]]) = addS S ((hdErr x).map ftR):=fun h=>by simp [hdErr,h,ftR]
  have l1 : ((hd1 x).map ftR).length < 1000000:=by have:=hd1_len x;simp;omega
  have l2 : ((hd2 x).map ftR).length < 1000000:=by have:=hd2_len x;simp;omega
  have l3 : ((hdErr x).map ftR).length < 1000000:=by have:=hdErr_len x;simp;omega
  apply share_if (P:=Tryz.prog) (N:=100) (σ:=σ) (¬ (x.legs.length = 0 ∨ 6 < x.legs.length)) [(2,.cptr [.sl 5 (p.1.map aptR),.sl 3 (p.2.map dstR)]),(3,.cptr (flR x)),(5,.ptr S.length 0 0 0),(6,.func 88 [] [.ptr S.length 0 0 0]),(53,.int .i64 x.legs.length),(54,.int .i64 0)] (addS S ((hdErr x).map ftR))
  · intro key
    refine (hcar _).then ?_
    cases hb1 : carF x.c
    case' true=>rw[a1 hb1]
    case' false =>
      simp (disch:=first|omega|(simp only[lenT];omega)) only[flR,addS_obj,evSt,↓eA,eB,evU,seval]
      refine (add_A 5 txC [] (by simp) S).mono ?_
      rintro _ _ ⟨rfl,rfl⟩
      rw[a2 hb1]
    all_goals
      by_cases h1 : x.n < 1
      case' pos =>
        simp (disch:=first|omega|(simp only[lenT];omega)) only[flR,addS_obj,dT h1,evSt,↓eA,eB,evU,seval]
        refine (add_A 2 txN _ l1 S).mono ?_
        rintro _ _ ⟨rfl,rfl⟩
        rw[a4 (.inl h1)]
        simp (disch:=first|omega|(simp only[lenT];omega)) only[flR,addS_obj,evSt,↓eA,eB,evU,seval]
      case' neg =>
        by_cases h2 : 9999 < x.n
        case' pos =>
          simp (disch:=first|omega|(simp only[lenT];omega)) only[flR,addS_obj,dF h1,dT h2,evSt,↓eA,eB,evU,seval]
          refine (add_A 2 txN _ l1 S).mono ?_
          rintro _ _ ⟨rfl,rfl⟩
          rw[a4 (.inr h2)]
          simp (disch:=first|omega|(simp only[lenT];omega)) only[flR,addS_obj,evSt,↓eA,eB,evU,seval]
        case' neg =>
          rw[a3 (fun h=>h.elim h1 h2)]
          simp (disch:=first|omega|(simp only[lenT];omega)) only[flR,addS_obj,dF h1,dF h2,evSt,↓eA,eB,evU,seval]
    all_goals
      refine (hck _).then ?_
      by_cases hb3 : pdF x.p = 0
      case' pos =>
        rw[a5 hb3]
        have hd3:=dT hb3
      case' neg =>
        have hd3:=dF hb3
        simp (disch:=first|omega|(simp only[lenT];omega)) only[flR,addS_obj,hd3,evSt,↓eA,eB,evU,seval]
        refine (add_A (pdF x.p) txP _ l2 S).mono ?_
        rintro _ _ ⟨rfl,rfl⟩
        rw[a6 hb3]
    all_goals
      by_cases hL : x.legs.length = 0 ∨ 6 < x.legs.length
      case' pos =>
        have hR : (flErr p x T).map ftR = (hdErr x).map ftR ++ [[.int .i64 4,.str txL]]:=by unfold flErr;rw[if_pos hL,List.map_append];rfl
        have himm:=ftR_imm (flErr p x T)
        rw[hR] at himm ⊢
        rcases Nat.eq_zero_or_pos x.legs.length with h6 | h6
        case' inl=>have h7 : decide ((x.legs.length : Int) = 0) = true:=decide_eq_true (by omega)
        case' inr =>
          have h7 : decide ((x.legs.length : Int) = 0) = false:=decide_eq_false (by omega)
          have h8 : decide (6 < (x.legs.length : Int)) = true:=decide_eq_true (by omega)
        case' inl=>simp (disch:=first|omega|(simp only[lenT];omega)) only[flR,addS_obj,hd3,h7,evSt,↓eA,eB,evU,seval]
        case' inr=>simp (disch:=first|omega|(simp only[lenT];omega)) only[flR,addS_obj,hd3,h7,h8,evSt,↓eA,eB,evU,seval]
        all_goals
          refine (add_A 4 txL _ l3 S).mono ?_
          rintro _ _ ⟨rfl,rfl⟩
          simp (disch:=first|omega|(simp only[lenT];omega)) only[flR,addS_obj,evSt,↓eA,eB,evU,seval]
          exact ⟨_,S,hn.fgt _,addS_frz _ _ himm,Nat.le_refl _,rfl,rfl⟩
    all_goals
      have h7 : decide ((x.legs.length : Int) = 0) = false:=decide_eq_false (by omega)
      have h8 : decide (6 < (x.legs.length : Int)) = false:=decide_eq_false (by omega)
      simp (disch:=first|omega|(simp only[lenT];omega)) only[flR,addS_obj,hd3,h7,h8,evSt,↓eA,eB,evU,seval]
      exact (key hL).sub (by simp only[flR,↓eA,eB,evU,seval])
  · intro hL
    have hg:=fun (i : Nat) (l : Lg) (hc : x.legs[i]? = some l) S=>leg_A p hp x.legs i l (by omega) hc S
    simp only[plV] at hg
    refine loopA (ι:=Nat) (fun k=>[(2,.cptr [.sl 5 (p.1.map aptR),.sl 3 (p.2.map dstR)]),(3,.cptr (flR x)),(5,.ptr S.length 0 0 0),(6,.func 88 [] [.ptr S.length 0 0 0]),(53,.int .i64 x.legs.length),(54,.int .i64 (k : Nat))]) (fun k=>addS S ((hdErr x ++ legsErr p x.legs k).map ftR)) (fun k=>k ≤ x.legs.length) (fun k=>x.legs.length - k) 0 (Nat.zero_le _) ?_ (by simp [legsErr]) ?_
    · simp only[↓eA,eB,evU,seval]
      try rfl
    intro k hk
    have hle:=legsErr_len p x.legs k
    have hhe:=hdErr_len x
    cases hc : x.legs[k]? with
    | none =>
      have hge : x.legs.length ≤ k:=List.getElem?_eq_none_iff.1 hc
      have hlt : ¬ ((k : Int) < x.legs.length):=by omega
      have hkl : k = x.legs.length:=by omega
      subst hkl
      simp (disch:=first|omega|(simp only[lenT];omega)) only[flR,addS_obj,len_acc,dF hlt,evSt,↓eA,eB,evU,seval]
      refine ⟨fun h=>?_,fun h=>?_⟩
      · have hF : flErr p x T = hdErr x ++ legsErr p x.legs x.legs.length:=by
          unfold flErr
          rw[if_neg hL,if_neg (fun h0=>by rw[h0] at h;simp at h)]
        exact ⟨_,S,hn.fgt _,addS_frz _ _ (ftR_imm _),Nat.le_refl _,by rw[hF],rfl⟩
      · have hnil : hdErr x ++ legsErr p x.legs x.legs.length = []:=List.eq_nil_of_length_eq_zero (by omega)
        have hF : flErr p x T = dayErr p x T:=by
          unfold flErr
          rw[if_neg hL,if_pos hnil]
        rw[hF,hnil]
        have hdy:=fun S=>days_A x.p S
        have hor:=fun d S=>ordered_A p hp x d (by omega) S
        simp only[pdR,plV] at hdy hor
        refine (hdy _).then ?_
        simp (disch:=first|omega|(simp only[lenT];omega)) only[flR,addS_obj,List.map_nil,evSt,↓eA,eB,evU,seval]
        have hdl : (daysF x.p).length ≤ 800:=by
          by_cases hok : pdF x.p = 0
          · rw[daysF_eq hok]
            have:=daysTo_len x.p (x.p.t - x.p.f + 1).toNat
            have:=pd_ok hok
            omega
          · unfold daysF;rw[if_neg hok];simp
        refine loopA (ι:=Nat) (fun j=>[(2,.cptr [.sl 5 (p.1.map aptR),.sl 3 (p.2.map dstR)]),(3,.cptr (flR x)),(5,.ptr S.length 0 0 0),(6,.func 88 [] [.ptr S.length 0 0 0]),(81,.sl 1 ((daysF x.p).map inR)),(82,.int .i64 (daysF x.p).length),(83,.int .i64 (j : Nat))]) (fun _=>addS S []) (fun j=>j ≤ (daysF x.p).length ∧ (daysF x.p).find? (badDay p x) = ((daysF x.p).drop j).find? (badDay p x)) (fun j=>(daysF x.p).length - j) 0 ⟨Nat.zero_le _,rfl⟩ ?_ rfl ?_
        · simp only[flR,↓eA,eB,evU,seval]
          try rfl
        rintro j ⟨hj,hinv⟩
        cases hcj : (daysF x.p)[j]? with
        | none =>
          have hgej : (daysF x.p).length ≤ j:=List.getElem?_eq_none_iff.1 hcj
          have hltj : ¬ ((j : Int) < (daysF x.p).length):=by omega
          have hf:=find_end hinv hcj
          have hD : dayErr p x T = []:=by unfold dayErr;rw[hf]
          simp (disch:=first|omega|(simp only[lenT];omega)) only[flR,addS_obj,dF hltj,hD,evSt,↓eA,eB,evU,seval]
          exact ⟨_,S,hn.fgt _,addS_frz _ _ (ftR_imm []),Nat.le_refl _,rfl,rfl⟩
        | some d =>
          have hltj':=(List.getElem?_eq_some_iff.1 hcj).1
          have hltj : (j : Int) < (daysF x.p).length:=by omega
          have hj1 : (j : Int) + 1 = ((j + 1 : Nat) : Int):=by omega
          simp (disch:=first|omega|(simp only[lenT];omega)) only[flR,addS_obj,dT hltj,hcj,inR,evSt,↓eA,eB,evU,seval]
          refine (hor d _).then ?_
          cases ho : ordL none (legsF p x d) with
          | true =>
            simp (disch:=first|omega|(simp only[lenT];omega)) only[flR,addS_obj,wrap_i64,hj1,evSt,↓eA,eB,evU,seval]
            exact ⟨j + 1,⟨by omega,find_next hinv hcj (by simp [badDay,ho])⟩,by omega,rfl⟩
          | false =>
            have hb : badDay p x d = true:=by simp [badDay,ho]
            have hf:=find_hit hinv hcj hb
            have hD : dayErr p x T = [⟨13,txDay ++ T d⟩]:=by unfold dayErr;rw[hf]
            have hadd : binV .add (.str [100,97,121,32]) (.str (T d)) = some (.str (txDay ++ T d)):=bs_add (by have:=hT d;simp only[List.length_cons,List.length_nil];unfold maxLen;omega)
            simp (disch:=first|omega|(simp only[lenT];omega)) only[flR,addS_obj,evSt,↓eA,eB,evU,seval]
            refine (hP d (List.mem_of_getElem? hcj) hb _).then ?_
            simp (disch:=first|omega|(simp only[lenT];omega)) only[flR,addS_obj,hadd,evSt,↓eA,eB,evU,seval]
            refine (add_A 13 (txDay ++ T d) [] (by simp) S).mono ?_
            rintro _ _ ⟨rfl,rfl⟩
            simp (disch:=first|omega|(simp only[lenT];omega)) only[flR,addS_obj,hD,evSt,↓eA,eB,evU,seval]
            exact ⟨_,S,hn.fgt _,addS_frz _ _ (ftR_imm [⟨13,txDay ++ T d⟩]),Nat.le_refl _,rfl,rfl⟩
    | some l =>
      have hlt':=(List.getElem?_eq_some_iff.1 hc).1
      have hlt : (k : Int) < x.legs.length:=by omega
      simp (disch:=first|omega|(simp only[lenT];omega)) only[flR,addS_obj,dT hlt,hc,evSt,↓eA,eB,evU,seval]
      refine (hg k l hc _).then ?_
      have hel:=legErr_len p x.legs k l
      generalize hes : legErr p x.legs k l = es at hel
      simp (disch:=first|omega|(simp only[lenT];omega)) only[flR,addS_obj,evSt,↓eA,eB,evU,seval]
      have hst : legsErr p x.legs (k + 1) = legsErr p x.legs k ++ es.map fun e=>⟨e,txLeg ++ decB k⟩:=by rw[legsErr,hc,← hes]
      have hadd : binV .add (.str [108,101,103,32]) (.str (decB k)) = some (.str (txLeg ++ decB k)):=bs_add (by have:=decB_len k;simp only[List.length_cons,List.length_nil];unfold maxLen;omega)
      refine loopA (ι:=Nat) (fun j=>[(2,.cptr [.sl 5 (p.1.map aptR),.sl 3 (p.2.map dstR)]),(3,.cptr (flR x)),(5,.ptr S.length 0 0 0),(6,.func 88 [] [.ptr S.length 0 0 0]),(53,.int .i64 x.legs.length),(54,.int .i64 (k : Nat)),(8,.int .i64 (k : Nat)),(61,.sl 1 (es.map inR)),(62,.int .i64 es.length),(63,.int .i64 (j : Nat))]) (fun j=>addS S ((hdErr x ++ legsErr p x.legs k).map ftR ++ (es.take j).map fun e=>[.int .i64 e,.str (txLeg ++ decB k)])) (fun j=>j ≤ es.length) (fun j=>es.length - j) 0 (Nat.zero_le _) ?_ (by simp) ?_
      · simp only[flR,↓eA,eB,evU,seval]
        try rfl
      intro j hj
      cases hcj : es[j]? with
      | none =>
        have hgej : es.length ≤ j:=List.getElem?_eq_none_iff.1 hcj
        have hltj : ¬ ((j : Int) < es.length):=by omega
        have hk1 : (k : Int) + 1 = ((k + 1 : Nat) : Int):=by omega
        simp (disch:=first|omega|(simp only[lenT];omega)) only[flR,addS_obj,dF hltj,wrap_i64,hk1,evSt,↓eA,eB,evU,seval]
        refine ⟨k + 1,by omega,by omega,rfl,?_⟩
        rw[List.take_of_length_le hgej,hst]
        simp only[List.map_append,List.map_map,List.append_assoc]
        rfl
      | some e =>
        have hltj':=(List.getElem?_eq_some_iff.1 hcj).1
        have hltj : (j : Int) < es.length:=by omega
        have hj1 : (j : Int) + 1 = ((j + 1 : Nat) : Int):=by omega
        simp (disch:=first|omega|(simp only[lenT];omega)) only[flR,addS_obj,dT hltj,hcj,inR,evSt,↓eA,eB,evU,seval]
        refine (tdecimal_A k _ (by omega)).then ?_
        simp (disch:=first|omega|(simp only[lenT];omega)) only[flR,addS_obj,hadd,evSt,↓eA,eB,evU,seval]
        refine (add_A e (txLeg ++ decB k) _ (by simp;omega) S).mono ?_
        rintro _ _ ⟨rfl,rfl⟩
        simp (disch:=first|omega|(simp only[lenT];omega)) only[flR,addS_obj,wrap_i64,hj1,evSt,↓eA,eB,evU,seval]
        exact ⟨j + 1,by omega,by omega,rfl,by rw[take_at hcj];simp⟩
end Go.Proofs.YtiihkfjbllpiaaaGreatDoor
/- The reference's look at a flight. -/
namespace Go.Proofs.YtiihkfjbllpiaaaGreatDoor
open Go Go.AL
set_option linter.unusedSectionVars false
variable [Go.AL.Mode] [Go.AL.LooseM]
set_option linter.unusedSimpArgs false
set_option linter.unusedVariables false
def headF (x : Fl) : List Ft:=hdErr x ++ if x.legs.length < 1 ∨ 6 < x.legs.length then [⟨4,txL⟩] else []
set_option maxHeartbeats 4000000 in
theorem head_A (x : Fl) (hl : x.legs.length ≤ 1100000) (S : Store) : CallA Tryz.prog 96 [.agg (flR x)] S fun r S'=>r = accV S.length ((headF x).map ftR) ∧ S' = S ++ accT 78 2 ((headF x).map ftR):=by
  refine CallA.keep Tryz.func96 c596 (Nat.le_of_ble_eq_true rfl) fun σ hσ=>?_
  have hcar:=fun S=>rcarrierT_A x.c S
  have hck:=fun S=>rcheck_A x.p S
  simp only[pdR] at hck
  have e0 : headF x = ((((if carF x.c then [] else [⟨5,txC⟩]) ++ if x.n < 1 ∨ 9999 < x.n then [⟨2,txN⟩] else []) ++ if pdF x.p ≠ 0 then [⟨pdF x.p,txP⟩] else []) ++ if x.legs.length < 1 ∨ 6 < x.legs.length then [⟨4,txL⟩] else [] : List Ft):=rfl
  have r1 : (1 ≤ roomA) = True:=by simp [roomA]
  have r2 : (2 ≤ roomA) = True:=by simp [roomA]
  have r3 : (3 ≤ roomA) = True:=by simp [roomA]
  have r4 : (4 ≤ roomA) = True:=by simp [roomA]
  simp (disch:=first|omega|(simp only[lenT];omega)) only[a596,flR,evSt,↓eA,eB,evU,seval]
  refine (hcar _).then ?_
  have n1 : (x.n < 1 ∨ 9999 < x.n) ↔ (decide (x.n < 1) || decide (9999 < x.n)) = true:=by simp
  have n2 : pdF x.p ≠ 0 ↔ decide (pdF x.p = 0) = false:=by simp
  have n3 : (x.legs.length < 1 ∨ 6 < x.legs.length) ↔ (decide ((x.legs.length : Int) < 1) || decide (6 < (x.legs.length : Int))) = true:=by rw[Bool.or_eq_true,decide_eq_true_eq,decide_eq_true_eq];omega
  simp only[n1,n2,n3] at e0
  rw[e0]
  cases hb1 : carF x.c<;>cases hx1 : decide (x.n < 1)<;>cases hx2 : decide (9999 < x.n)<;>cases hx3 : decide (pdF x.p = 0)<;>cases hx4 : decide ((x.legs.length : Int) < 1)<;>cases hx5 : decide (6 < (x.legs.length : Int))
  all_goals simp (disch:=first|omega|(simp only[lenT];omega)) only[r1,r2,r3,r4,true_and,flR,hx1,hx2,hx3,hx4,hx5,evSt,↓eA,eB,evU,seval]
  all_goals refine (hck _).then ?_
  all_goals simp (disch:=first|omega|(simp only[lenT];omega)) only[r1,r2,r3,r4,true_and,flR,hx1,hx2,hx3,hx4,hx5,evSt,↓eA,eB,evU,seval]
  all_goals try refine (hck _).then ?_
  all_goals try simp (disch:=first|omega|(simp only[lenT];omega)) only[r1,r2,r3,r4,true_and,flR,hx1,hx2,hx3,hx4,hx5,evSt,↓eA,eB,evU,seval]
  all_goals first
    | exact ⟨rfl,rfl⟩
    | exact ⟨rfl,by simp [accT]⟩
end Go.Proofs.YtiihkfjbllpiaaaGreatDoor
/- Timetables without violations,plainly. Shares without violations,plainly. -/
namespace Go.Proofs.YtiihkfjbllpiaaaGreatDoor
open Go Go.AL
set_option linter.unusedSectionVars false
variable [Go.AL.Mode] [Go.AL.LooseM]
set_option linter.unusedSimpArgs false
set_option linter.unusedVariables false
def Goes (L : List Lg) : Prop:=∀ (i : Nat) (l : Lg),L[i]? = some l → folF L i l = true
theorem goes_next {L : List Lg} (h : Goes L) {i : Nat} {a b : Lg} (ha : L[i]? = some a) (hb : L[i + 1]? = some b) : b.f = a.t:=by
  have:=h (i + 1) b hb
  rw[folF_succ (by omega) (l0:=a) (by simpa using ha)] at this
  rw[Bool.and_eq_true,decide_eq_true_eq] at this
  exact this.1
theorem goes_back {L : List Lg} (h : Goes L) {i j : Nat} {a b : Lg} (ha : L[i]? = some a) (hb : L[j]? = some b) (hij : j ≤ i) : b.f ≠ a.t:=by
  have key : ((L.take (i + 1)).any fun x=>decide (x.f = a.t)) = false:=by
    have h1:=h i a ha
    cases hi : i with
    | zero =>
      subst hi
      rw[folF_zero (by omega)] at h1
      simpa using h1
    | succ k =>
      subst hi
      have hlt:=(List.getElem?_eq_some_iff.1 ha).1
      rw[folF_succ (by omega) (l0:=L[k]'(by omega)) (by simp)] at h1
      rw[Bool.and_eq_true] at h1
      simpa using h1.2
  intro he
  rw[List.any_eq_false] at key
  have hm : b ∈ L.take (i + 1):=List.mem_of_getElem? (i:=j) (by rw[List.getElem?_take,if_pos (by omega)];exact hb)
  exact key b hm (by simp [he])
theorem goes_from {L : List Lg} (h : Goes L) {i j : Nat} {a b : Lg} (ha : L[i]? = some a) (hb : L[j]? = some b) (he : a.f = b.f) : i = j:=by
  have one : ∀ {i j : Nat} {a b : Lg},L[i]? = some a → L[j]? = some b → a.f = b.f → ¬ i < j:=by
    intro i j a b ha hb he hlt
    have hjl:=(List.getElem?_eq_some_iff.1 hb).1
    have hc : L[j - 1]? = some (L[j - 1]'(by omega)):=List.getElem?_eq_getElem _
    have h1:=goes_next h hc (b:=b) (by rw[show j - 1 + 1 = j by omega];exact hb)
    exact goes_back h hc ha (by omega) (by rw[he,h1])
  have h1:=one ha hb he
  have h2:=one hb ha he.symm
  omega
theorem goes_to {L : List Lg} (h : Goes L) {i j : Nat} {a b : Lg} (ha : L[i]? = some a) (hb : L[j]? = some b) (he : a.t = b.t) : i = j:=by
  have one : ∀ {i j : Nat} {a b : Lg},L[i]? = some a → L[j]? = some b → a.t = b.t → ¬ i < j:=by
    intro i j a b ha hb he hlt
    have hjl:=(List.getElem?_eq_some_iff.1 hb).1
    have hc : L[i + 1]? = some (L[i + 1]'(by omega)):=List.getElem?_eq_getElem _
    have h1:=goes_next h ha hc
    exact goes_back h hb hc (by omega) (by rw[h1,he])
  have h1:=one ha hb he
  have h2:=one hb ha he.symm
  omega
structure FlOk (p : Pls) (x : Fl) : Prop where
  car : carF x.c = true
  pd : pdF x.p = 0
  few : x.legs.length ≤ 6
  some_ : 0 < x.legs.length
  goes : Goes x.legs
theorem flOk {p : Pls} {x : Fl} {T : Int → Txt} (h : flErr p x T = []) : FlOk p x:=by
  unfold flErr at h
  split at h
  · simp at h
  rename_i hL
  have hh : hdErr x ++ legsErr p x.legs x.legs.length = []:=by
    split at h
    · assumption
    · exact h
  obtain ⟨h1,h2⟩:=List.append_eq_nil_iff.1 hh
  unfold hdErr at h1
  obtain ⟨h3,h4⟩:=List.append_eq_nil_iff.1 h1
  unfold hd2 at h3
  obtain ⟨h5,h6⟩:=List.append_eq_nil_iff.1 h3
  unfold hd1 at h5
  refine ⟨?_,?_,by omega,by omega,?_⟩
  · cases hc : carF x.c with
    | true=>rfl
    | false=>simp [hc] at h5
  · by_cases hc : pdF x.p = 0
    · exact hc
    · simp [hc] at h4
  · have all : ∀ k,k ≤ x.legs.length → ∀ i l,i < k → x.legs[i]? = some l → legsErr p x.legs k = [] → folF x.legs i l = true:=by
      intro k
      induction k with
      | zero=>intro _ i l hi;omega
      | succ k ih =>
        intro hk i l hi hl he
        rw[legsErr] at he
        obtain ⟨e1,e2⟩:=List.append_eq_nil_iff.1 he
        by_cases hik : i = k
        · subst hik
          rw[hl] at e2
          have e3 : legErr p x.legs i l = []:=by simpa using e2
          unfold legErr at e3
          cases hf : folF x.legs i l with
          | true=>rfl
          | false=>simp [hf] at e3
        · exact ih (by omega) i l (by omega) hl e1
    intro i l hl
    exact all x.legs.length (Nat.le_refl _) i l (List.getElem?_eq_some_iff.1 hl).1 hl h2
structure TtOk (p : Pls) (l : List Fl) : Prop where
  fl : ∀ x ∈ l,FlOk p x
  tw : ∀ (i j : Nat) (x y : Fl),i < j → l[i]? = some x → l[j]? = some y → x.c = y.c → x.n = y.n → meetF x.p y.p = false
theorem has_days {q : Pd} {d : Int} (h : hasF q d = true) : d ∈ daysF q:=by
  unfold hasF at h
  rw[Bool.and_eq_true,decide_eq_true_eq] at h
  obtain ⟨⟨h1,h2,h3⟩,h4⟩:=h
  unfold daysF
  rw[if_pos h1,List.mem_filter]
  refine ⟨List.mem_map.2 ⟨(d - q.f).toNat,List.mem_range.2 (by omega),by omega⟩,h4⟩
theorem days_has {q : Pd} {d : Int} (h : d ∈ daysF q) : hasF q d = true:=by
  unfold daysF at h
  split at h
  · rename_i h1
    rw[List.mem_filter] at h
    obtain ⟨h2,h3⟩:=h
    obtain ⟨k,h4,rfl⟩:=List.mem_map.1 h2
    rw[List.mem_range] at h4
    unfold hasF
    rw[h3,Bool.and_true,decide_eq_true_eq]
    exact ⟨h1,by omega,by omega⟩
  · cases h
theorem meet_day {a b : Pd} {d : Int} (ha : hasF a d = true) (hb : hasF b d = true) : meetF a b = true:=by
  unfold meetF
  rw[List.any_eq_true]
  exact ⟨d,has_days ha,hb⟩
theorem tt_on {p : Pls} {l : List Fl} (h : TtOk p l) {x : Fl} {d : Int} (hx : x ∈ l) (hd : hasF x.p d = true) : onL l x.c x.n d = some x:=by
  have hs : (onL l x.c x.n d).isSome = true:=by
    rw[onL_eq,List.find?_isSome]
    exact ⟨x,hx,by simp [onq,hd]⟩
  obtain ⟨y,hy⟩:=Option.isSome_iff_exists.1 hs
  obtain ⟨h1,h2,h3⟩:=onL_on hy
  obtain ⟨i,hi⟩:=List.getElem?_of_mem hx
  obtain ⟨j,hj⟩:=List.getElem?_of_mem (onL_mem hy)
  rcases Nat.lt_trichotomy i j with hlt | heq | hlt
  · have:=h.tw i j x y hlt hi hj h1.symm h2.symm
    rw[meet_day hd h3] at this
    cases this
  · subst heq
    rw[hi] at hj
    cases hj
    exact hy
  · have:=h.tw j i y x hlt hj hi h1 h2
    rw[meet_day h3 hd] at this
    cases this
theorem segs_mem {L : List Dt} {s : Sg} : s ∈ segsL L ↔ ∃ (i k : Nat) (a b : Dt),i ≤ k ∧ L[i]? = some a ∧ L[k]? = some b ∧ s = segOf a b:=by
  induction L with
  | nil=>simp [segsL]
  | cons a L ih =>
    rw[segsL,List.mem_append,ih]
    constructor
    · rintro (h | ⟨i,k,a',b',h1,h2,h3,h4⟩)
      · obtain ⟨b,hb,rfl⟩:=List.mem_map.1 h
        obtain ⟨k,hk⟩:=List.getElem?_of_mem hb
        exact ⟨0,k,a,b,Nat.zero_le _,rfl,hk,rfl⟩
      · exact ⟨i + 1,k + 1,a',b',by omega,by simpa using h2,by simpa using h3,h4⟩
    · rintro ⟨i,k,a',b',h1,h2,h3,rfl⟩
      cases i with
      | zero =>
        simp only[List.getElem?_cons_zero,Option.some.injEq] at h2
        subst h2
        exact .inl (List.mem_map_of_mem (List.mem_of_getElem? h3))
      | succ i =>
        obtain ⟨k,rfl⟩ : ∃ j,k = j + 1:=⟨k - 1,by omega⟩
        exact .inr ⟨i,k,a',b',by omega,by simpa using h2,by simpa using h3,rfl⟩
theorem legs_at {p : Pls} {x : Fl} {day : Int} {i : Nat} {a : Dt} (h : (legsF p x day)[i]? = some a) : ∃ l,x.legs[i]? = some l ∧ a = datF p x day l:=by
  unfold legsF at h
  rw[List.getElem?_map] at h
  cases hc : x.legs[i]? with
  | none=>rw[hc] at h;cases h
  | some l=>rw[hc] at h;cases h;exact ⟨l,rfl,rfl⟩
theorem segs_one {p : Pls} {x : Fl} (h : FlOk p x) {day : Int} {s t : Sg} (hs : s ∈ segsL (legsF p x day)) (ht : t ∈ segsL (legsF p x day)) (h1 : s.f = t.f) (h2 : s.t = t.t) : s = t:=by
  obtain ⟨i,k,a,b,_,ha,hb,rfl⟩:=segs_mem.1 hs
  obtain ⟨j,m,c,d,_,hc,hd,rfl⟩:=segs_mem.1 ht
  obtain ⟨a,ka,rfl⟩:=legs_at ha
  obtain ⟨b,kb,rfl⟩:=legs_at hb
  obtain ⟨c,kc,rfl⟩:=legs_at hc
  obtain ⟨d,kd,rfl⟩:=legs_at hd
  simp only[segOf,datF] at h1 h2
  have e1:=goes_from h.goes ka kc h1
  have e2:=goes_to h.goes kb kd h2
  subst e1 e2
  rw[ka] at kc
  rw[kb] at kd
  cases kc
  cases kd
  rfl
theorem segs_nums {p : Pls} {x : Fl} {day : Int} {s : Sg} (hs : s ∈ segsL (legsF p x day)) : s.c = x.c ∧ s.n = x.n ∧ s.day = day:=by
  obtain ⟨i,k,a,b,_,ha,hb,rfl⟩:=segs_mem.1 hs
  obtain ⟨a,ka,rfl⟩:=legs_at ha
  exact ⟨rfl,rfl,rfl⟩
theorem segF_of {p : Pls} {l : List Fl} {x : Fl} {c : Txt} {n day : Int} (hx : FlOk p x) (ho : onL l c n day = some x) {s : Sg} (hs : s ∈ segsL (legsF p x day)) : segF p l c n day s.f s.t = (s,0):=by
  unfold segF
  rw[ho]
  simp only
  have hf : ((segsL (legsF p x day)).find? fun y=>decide (y.f = s.f) && decide (y.t = s.t)) = some s:=by
    have hi : ((segsL (legsF p x day)).find? fun y=>decide (y.f = s.f) && decide (y.t = s.t)).isSome = true:=by
      rw[List.find?_isSome]
      exact ⟨s,hs,by simp⟩
    obtain ⟨y,hy⟩:=Option.isSome_iff_exists.1 hi
    have h1:=List.find?_some hy
    rw[Bool.and_eq_true,decide_eq_true_eq,decide_eq_true_eq] at h1
    rw[hy,segs_one hx (List.mem_of_find?_eq_some hy) hs h1.1 h1.2]
  rw[hf]
theorem segF_ok {p : Pls} {l : List Fl} {c : Txt} {n day : Int} {f t : Txt} (h : (segF p l c n day f t).2 = 0) :
    ∃ x,onL l c n day = some x ∧ (segF p l c n day f t).1 ∈ segsL (legsF p x day) ∧ (segF p l c n day f t).1.f = f ∧ (segF p l c n day f t).1.t = t ∧
      (segF p l c n day f t).1.c = c ∧ (segF p l c n day f t).1.n = n ∧ (segF p l c n day f t).1.day = day:=by
  unfold segF at h ⊢
  cases ho : onL l c n day with
  | none=>rw[ho] at h;simp at h
  | some x =>
    rw[ho] at h
    simp only at h ⊢
    cases hf : (segsL (legsF p x day)).find? fun s=>decide (s.f = f) && decide (s.t = t) with
    | none=>rw[hf] at h;simp at h
    | some s =>
      have h1:=List.find?_some hf
      rw[Bool.and_eq_true,decide_eq_true_eq,decide_eq_true_eq] at h1
      have hm:=List.mem_of_find?_eq_some hf
      obtain ⟨n1,n2,n3⟩:=segs_nums hm
      obtain ⟨o1,o2,o3⟩:=onL_on ho
      exact ⟨x,rfl,hm,h1.1,h1.2,by simp only;rw[n1,o1],by simp only;rw[n2,o2],n3⟩
theorem segF_bad {p : Pls} {l : List Fl} {c : Txt} {n day : Int} {f t : Txt} (h : (segF p l c n day f t).2 ≠ 0) : (segF p l c n day f t).1 = zSg:=by
  unfold segF at h ⊢
  cases ho : onL l c n day with
  | none=>rfl
  | some x =>
    rw[ho] at h
    simp only at h ⊢
    cases hf : (segsL (legsF p x day)).find? fun s=>decide (s.f = f) && decide (s.t = t) with
    | none=>rfl
    | some s=>rw[hf] at h;simp at h
theorem car_ne {c : Txt} (h : carF c = true) : c ≠ []:=by
  rintro rfl
  simp [carF,codeF] at h
def oprtd (p : Pls) (l : List Fl) (s : Sg) : Bool:=decide ((segF p l s.c s.n s.day s.f s.t).2 = 0) && decide ((segF p l s.c s.n s.day s.f s.t).1 = s)
theorem oprtd_seg {p : Pls} {l : List Fl} (h : TtOk p l) (c : Txt) (n day : Int) (f t : Txt) : oprtd p l (segF p l c n day f t).1 = decide ((segF p l c n day f t).2 = 0):=by
  by_cases hz : (segF p l c n day f t).2 = 0
  · obtain ⟨x,h1,h2,h3,h4,h5,h6,h7⟩:=segF_ok hz
    unfold oprtd
    rw[h5,h6,h7,h3,h4,hz]
    simp
  · rw[segF_bad hz,dF hz]
    have hn : onL l zSg.c zSg.n zSg.day = none:=by
      cases ho : onL l zSg.c zSg.n zSg.day with
      | none=>rfl
      | some x=>exact absurd (onL_on ho).1 (car_ne (h.fl x (onL_mem ho)).car)
    unfold oprtd
    rw[segF_none hn]
    rfl
end Go.Proofs.YtiihkfjbllpiaaaGreatDoor
