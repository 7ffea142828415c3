/- Schedule: the chapter's examples; the laws Finds and Days. -/
import Derived.Test.YtiihkfjbllpiaaaGreatDoorWSm7
namespace Go.Proofs.YtiihkfjbllpiaaaGreatDoor
open Go Go.AL
set_option linter.unusedSectionVars false
variable [Go.AL.Mode] [Go.AL.LooseM]
set_option linter.unusedSimpArgs false
set_option linter.unusedVariables false
def dayF (p : Pls) (l : List Fl) (day : Int) : List Dt:=(allL p l day).mergeSort fun a b=>!ltD b a
theorem dayF_S (p : Pls) (l : List Fl) (day : Int) : DayS p l day (dayF p l day):=by
  refine ⟨?_,List.mergeSort_perm _ _⟩
  have h:=List.pairwise_mergeSort (le:=fun a b=>!ltD b a) (fun a b c h1 h2=>by simp only[Bool.not_eq_true'] at *;exact ltD_trans h1 h2) (fun a b=>by
    cases h : ltD b a with
    | false=>simp
    | true=>simp [ltD_asymm h]) (allL p l day)
  exact h.imp fun h=>by simpa using h
theorem dayT_A (p : Pls) (hp : POk p) (l : List Fl) (hl : FOk l) (ht : TtD p l) (day : Int) (S : Store) : CallA Tryz.prog 17 [plV p,.sl 6 (l.map flR),.int .i64 day] S fun r S'=>r = .sl 8 ((dayF p l day).map dtR) ∧ S' = S :=
  (day_A p hp l hl day S).mono fun r S' ⟨L,h1,h2,h3⟩=>⟨by rw[h1,day_unique ht h2 (dayF_S p l day)],h3⟩
theorem rdayT_A (p : Pls) (hp : POk p) (l : List Fl) (hl : FOk l) (ht : TtD p l) (day : Int) (S : Store) : CallA Tryz.prog 25 [plV p,.sl 6 (l.map flR),.int .i64 day] S fun r S'=>r = .sl 8 ((dayF p l day).map dtR) ∧ S' = S :=
  (rday_A p hp l hl day S).mono fun r S' ⟨L,h1,h2,h3⟩=>⟨by rw[h1,day_unique ht h2 (dayF_S p l day)],h3⟩
theorem dayF_len (p : Pls) {l : List Fl} (hl : FOk l) (day : Int) : (dayF p l day).length ≤ 300000:=by
  rw[(dayF_S p l day).2.length_eq]
  have h:=allL_len p hl day l.length
  rw[List.take_length] at h
  have:=hl.h1
  omega
def g0 : Fl:=⟨[66,65],117,⟨9497,9499,127⟩,[]⟩
def kBA : Txt:=[66,65]
def kLHR : Txt:=[76,72,82]
def kJFK : Txt:=[74,70,75]
def s8 : Sg:=⟨kBA,117,9498,kLHR,kJFK,13677620,13678120⟩
def t8 : Sg:=⟨kBA,117,9498,kLHR,kJFK,13677621,13678120⟩
def d8 : Dt:=⟨kBA,117,9499,kLHR,kJFK,13679060,13679560,[55,55,55]⟩
theorem kn1 : ttF q0 [x0,g0] rT = [⟨4,[102,108,105,103,104,116,32,49,32,108,101,103,115]⟩,⟨6,[102,108,105,103,104,116,32,49]⟩]:=by decide +kernel
theorem kn2 : onL [x0] kBA 117 9500 = none:=by decide +kernel
theorem kn3 : segF q0 [x0] kBA 117 9498 kLHR kJFK = (s8,0):=by decide +kernel
theorem kn4 : (segF q0 [x0] kBA 117 9498 kJFK kLHR).2 = 14:=by decide +kernel
theorem kn5 : difF [x0] [] kBA 117 ⟨9499,9505,127⟩ = [9499]:=by decide +kernel
theorem kn6 : allL q0 [x0] 9499 = [d8]:=by decide +kernel
theorem kn7 : oprtd q0 [x0] s8 = true:=by decide +kernel
theorem kn8 : oprtd q0 [x0] t8 = false:=by decide +kernel
theorem kn9 : ([x0,g0].all fun x=>(daysF x.p).all fun d=>!badDay q0 x d) = true:=by decide +kernel
theorem q0_ok : POk q0:=⟨by decide,fun a ha=>by
  have h : (q0.1.all fun a=>decide (a.sh.length ≤ 100000)) = true:=by decide
  exact of_decide_eq_true (List.all_eq_true.1 h a ha)⟩
theorem x0_ok : FOk [x0]:=⟨by decide,fun x hx=>by simp only[List.mem_singleton] at hx;subst hx;decide⟩
theorem e0_ok : FOk []:=⟨by decide,fun x hx=>by cases hx⟩
theorem kcheck_A (S : Store) : CallA Tryz.prog 14 [plV q0,.sl 6 [flR x0,[.str [66,65],.int .i64 117,.int .i64 9497,.int .i64 9499,.int .i64 127,.nilSl]]] S fun r S'=>r = .sl 2 [[.int .i64 4,.str [102,108,105,103,104,116,32,49,32,108,101,103,115]],[.int .i64 6,.str [102,108,105,103,104,116,32,49]]] ∧ S' = S:=by
  have h:=check8_A q0 q0_ok [x0,g0] (by decide) (fun x hx=>by
      rcases List.mem_cons.1 hx with rfl | hx
      · decide
      · simp only[List.mem_singleton] at hx;subst hx;decide) rT (fun x hx d hd hb=>by
    have:=List.all_eq_true.1 (List.all_eq_true.1 kn9 x hx) d hd
    rw[hb] at this
    cases this) (fun d=>by rw[rT,prtF_len];omega) S
  rw[kn1] at h
  exact h.wk ⟨.refl _,Wk.slL ⟨⟨.refl _,.refl _,.refl _,.refl _,.refl _,.refl _,trivial⟩,⟨.refl _,.refl _,.refl _,.refl _,.refl _,.nil 5,trivial⟩,trivial⟩,trivial⟩
theorem kday_A (S : Store) : CallA Tryz.prog 17 [plV q0,.sl 6 ([x0].map flR),.int .i64 9499] S fun r S'=>r = .sl 8 [dtR d8] ∧ S' = S :=
  (day_A q0 q0_ok [x0] x0_ok 9499 S).mono fun r S' ⟨L,h1,h2,h3⟩=>⟨by
    have h:=h2.2
    rw[kn6] at h
    rw[h1,List.perm_singleton.1 h]
    rfl,h3⟩
set_option maxHeartbeats 4000000 in
theorem knows8_A (S : Store) : CallA Tryz.prog 16 [] S fun r S'=>r = .bool true ∧ S' = S:=by
  refine CallA.withNeat Tryz.func16 c516 fun hn=>?_
  refine CallA.fin Tryz.func16 c516 (Nat.le_of_ble_eq_true rfl) fun σ hσ=>?_
  have h2:=fun S=>onC_A [x0] kBA 117 9500 (by decide) S
  have h3:=fun S=>seg_A q0 q0_ok [x0] x0_ok kBA 117 9498 kLHR kJFK S
  have h4:=fun S=>seg_A q0 q0_ok [x0] x0_ok kBA 117 9498 kJFK kLHR S
  have h5:=fun S=>(differ_A [x0] [] x0_ok e0_ok kBA 117 ⟨9499,9505,127⟩ S).wk (args:=[.sl 6 ([x0].map flR),.nilSl,.str kBA,.int .i64 117,.agg (pdR ⟨9499,9505,127⟩)]) ⟨.refl _,.nil 6,.refl _,.refl _,.refl _,trivial⟩
  have h6:=fun S=>kday_A S
  have h7:=fun S=>oprtd_A q0 q0_ok [x0] x0_ok s8 S
  have h8:=fun S=>oprtd_A q0 q0_ok [x0] x0_ok t8 S
  rw[kn2] at h2
  rw[kn3] at h3
  rw[kn5] at h5
  rw[kn7] at h7
  rw[kn8] at h8
  simp only[kn4] at h4
  generalize (segF q0 [x0] kBA 117 9498 kJFK kLHR).1 = u at h4
  simp only[List.map_cons,List.map_nil,kBA,kLHR,kJFK,s8,t8,d8,sgR,dtR,pdR,inR] at h2 h3 h4 h5 h6 h7 h8
  have hx : flR x0 = [.str [66,65],.int .i64 117,.int .i64 9497,.int .i64 9499,.int .i64 127,.sl 5 [[.str [76,72,82],.str [74,70,75],.int .i64 500,.int .i64 700,.str [55,55,55]]]]:=rfl
  have hc:=fun S=>kcheck_A S
  have h1:=fun S=>first8_A S
  rw[hx] at h1 h2 h3 h4 h5 h6 h7 h8 hc
  simp (disch:=first|omega|(simp only[lenT];omega)) only[a516,evSt,↓eA,eB,evU,seval]
  refine (places8_A _).then ?_
  simp (disch:=first|omega|(simp only[lenT];omega)) only[plV,evSt,↓eA,eB,evU,seval]
  refine (h1 _).then ?_
  simp (disch:=first|omega|(simp only[lenT];omega)) only[plV,evSt,↓eA,eB,evU,seval]
  refine (hc _).then ?_
  simp (disch:=first|omega|(simp only[lenT];omega)) only[plV,evSt,↓eA,eB,evU,seval]
  refine (h2 _).then ?_
  simp (disch:=first|omega|(simp only[lenT];omega)) only[onR,noFl,plV,evSt,↓eA,eB,evU,seval]
  refine (h3 _).then ?_
  simp (disch:=first|omega|(simp only[lenT];omega)) only[plV,evSt,↓eA,eB,evU,seval]
  refine (h4 _).then ?_
  simp (disch:=first|omega|(simp only[lenT];omega)) only[plV,sgR,evSt,↓eA,eB,evU,seval]
  refine (h5 _).then ?_
  simp (disch:=first|omega|(simp only[lenT];omega)) only[plV,evSt,↓eA,eB,evU,seval]
  refine (h6 _).then ?_
  simp (disch:=first|omega|(simp only[lenT];omega)) only[plV,evSt,↓eA,eB,evU,seval]
  refine (h7 _).then ?_
  simp (disch:=first|omega|(simp only[lenT];omega)) only[plV,evSt,↓eA,eB,evU,seval]
  refine (h8 _).then ?_
  simp (disch:=first|omega|(simp only[lenT];omega)) only[plV,evSt,↓eA,eB,evU,seval]
  exact ⟨_,S,hn.fgt _,.imm rfl,Nat.le_refl _,rfl,rfl⟩
structure Ak where
  c : Txt
  n : Int
  day : Int
  f : Txt
  t : Txt
def akR (a : Ak) : List V:=[.str a.c,.int .i64 a.n,.int .i64 a.day,.str a.f,.str a.t]
theorem few_ok {p : Pls} {l : List Fl} (hs : SSm p l) (h : Few p l) : POk p ∧ FOk l ∧ l.length ≤ 12 :=
  ⟨⟨by have:=hs.h1.h1;omega,fun a ha=>by have:=h.h3 a ha;omega⟩,⟨by have:=h.h1;omega,fun x hx=>by have:=(h.h2 x hx).1;omega⟩,h.h1⟩
set_option maxHeartbeats 4000000 in
theorem sl_finds (p : Pls) (l : List Fl) (a : Ak) (hs : SSm p l) (S : Store) : CallA Tryz.prog 5 [plV p,.sl 6 (l.map flR),.agg (akR a)] S fun r S'=>r = .bool true ∧ S' = S:=by
  refine CallA.withNeat Tryz.func5 c505 fun hn=>?_
  refine CallA.fin Tryz.func5 c505 (Nat.le_of_ble_eq_true rfl) fun σ hσ=>?_
  have hfew:=fun S=>few_A p l hs S
  have hkn:=fun S=>knows8_A S
  simp only[plV] at hfew
  simp (disch:=first|omega|(simp only[lenT];omega)) only[a505,plV,akR,evSt,↓eA,eB,evU,seval]
  refine (hfew _).mono ?_
  rintro _ S2 ⟨b,rfl,hb,hS2⟩
  rw[hS2]
  cases b with
  | false =>
    simp (disch:=first|omega|(simp only[lenT];omega)) only[evSt,↓eA,eB,evU,seval]
    refine (hkn _).then ?_
    simp (disch:=first|omega|(simp only[lenT];omega)) only[evSt,↓eA,eB,evU,seval]
    exact ⟨_,S,hn.self,.imm rfl,Nat.le_refl _,rfl,rfl⟩
  | true =>
    obtain ⟨hp,hl,h12⟩:=few_ok hs (hb rfl)
    have h1:=fun S=>rtt0_A p hp l (by omega) hs.h3 S
    simp only[plV] at h1
    simp (disch:=first|omega|(simp only[lenT];omega)) only[evSt,↓eA,eB,evU,seval]
    refine (h1 _).then ?_
    by_cases h0 : ttF p l rT = []
    case neg =>
      have h0' : decide ((0 : Int) < (ttF p l rT).length) = true:=decide_eq_true (by have:=List.length_pos_iff.2 h0;omega)
      simp (disch:=first|omega|(simp only[lenT];omega)) only[h0',evSt,↓eA,eB,evU,seval]
      refine (hkn _).then ?_
      simp (disch:=first|omega|(simp only[lenT];omega)) only[evSt,↓eA,eB,evU,seval]
      exact ⟨_,S,hn.self,.imm rfl,Nat.le_refl _,rfl,rfl⟩
    have h0' : decide ((0 : Int) < (ttF p l rT).length) = false:=decide_eq_false (by rw[h0];simp)
    have ht:=ttD h0
    have g1:=fun S=>onW_A l a.c a.n a.day (by have:=hl.h1;omega) S
    have g2:=fun S=>ronW_A l a.c a.n a.day (by have:=hl.h1;omega) S
    have hol:=onL_legs hl a.c a.n a.day
    have g3:=fun S=>seg_A p hp l hl a.c a.n a.day a.f a.t S
    have g4:=fun S=>rsegF_A p hp l hl a.c a.n a.day a.f a.t S
    have hop:=oprtd_seg ht.ok a.c a.n a.day a.f a.t
    have g5:=fun S=>dayT_A p hp l hl ht a.day S
    have g6:=fun S=>rdayT_A p hp l hl ht a.day S
    have hdl:=dayF_len p hl a.day
    generalize segF p l a.c a.n a.day a.f a.t = Z at g3 g4 hop
    have g7:=fun S=>oprtd_A p hp l hl Z.1 S
    rw[hop] at g7
    unfold onV at g1 g2
    generalize hx : (onL l a.c a.n a.day).getD z0 = x at g1 g2 hol
    generalize (onL l a.c a.n a.day).isSome = o at g1 g2
    have g8:=fun S=>rsame_A x x (by omega) S
    have g9:=fun S=>rsameDt_A (dayF p l a.day) (dayF p l a.day) (by omega) S
    rw[dT rfl] at g8 g9
    generalize dayF p l a.day = D at g5 g6 g9
    simp only[plV,sgR] at g3 g4 g5 g6 g7
    simp only[flR] at g1 g2 g8
    simp (disch:=first|omega|(simp only[lenT];omega)) only[h0',evSt,↓eA,eB,evU,seval]
    refine (g1 _).then ?_
    simp (disch:=first|omega|(simp only[lenT];omega)) only[evSt,↓eA,eB,evU,seval]
    refine (g2 _).then ?_
    simp (disch:=first|omega|(simp only[lenT];omega)) only[evSt,↓eA,eB,evU,seval]
    refine (g3 _).then ?_
    simp (disch:=first|omega|(simp only[lenT];omega)) only[evSt,↓eA,eB,evU,seval]
    refine (g4 _).then ?_
    simp (disch:=first|omega|(simp only[lenT];omega)) only[evSt,↓eA,eB,evU,seval]
    refine (g8 _).then ?_
    have q1 : ((false == false) : Bool) = true:=rfl
    have q2 : ((true == true) : Bool) = true:=rfl
    have q5 : ∀ b : Bool,(b == b) = true:=fun b=>by cases b<;>rfl
    simp (disch:=first|omega|(simp only[lenT];omega)) only[q5,q1,q2,eq_self,decide_true,Bool.and_self,evSt,↓eA,eB,evU,seval]
    refine exD.intro (g5 _) ?_
    simp (disch:=first|omega|(simp only[lenT];omega)) only[evSt,↓eA,eB,evU,seval]
    refine (g6 _).then ?_
    simp (disch:=first|omega|(simp only[lenT];omega)) only[evSt,↓eA,eB,evU,seval]
    refine (g9 _).then ?_
    simp (disch:=first|omega|(simp only[lenT];omega)) only[evSt,↓eA,eB,evU,seval]
    refine (g7 _).then ?_
    simp (disch:=first|omega|(simp only[lenT];omega)) only[q5,evSt,↓eA,eB,evU,seval]
    refine (hkn _).then ?_
    simp (disch:=first|omega|(simp only[lenT];omega)) only[evSt,↓eA,eB,evU,seval]
    exact ⟨_,S,hn.fgt _,.imm rfl,Nat.le_refl _,rfl,rfl⟩
end Go.Proofs.YtiihkfjbllpiaaaGreatDoor
