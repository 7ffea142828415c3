/- Component: trips compared, what is too big; the examples. -/
import Derived.Test.YtanmnoipikdplaaGreatWCna
namespace Go.Proofs.YtanmnoipikdplaaGreat
open Go Go.AL
set_option linter.unusedSectionVars false
variable [Go.AL.Mode]
set_option linter.unusedSimpArgs false
set_option linter.unusedVariables false
theorem same_A (l : List Txt) (S : Store) : CallA Tryz.prog 9 [.sl 1 (l.map txR),.sl 1 (l.map txR)] S fun v S'=>v = .bool true ∧ S' = S:=by
  refine sl_len (fun hm=>?_) ⟨Tryz.f9,Tryz.func9,by kernel_rfl,by kernel_rfl⟩
  rw[List.length_map] at hm
  have hm':=mx _ hm
  refine CallA.keep Tryz.func9 c5075 (Nat.le_of_ble_eq_true rfl) fun σ hσ=>?_
  simp (disch:=first|omega|(simp only[lenT];omega)) only[a5075,eq_self,evSt,↓eA,eB,evU,seval]
  refine loopA (ι:=Nat) (fun k=>[(0,.sl 1 (l.map txR)),(1,.sl 1 (l.map txR)),(5,.int .i64 (k : Nat))]) (fun _=>S) (fun k=>k ≤ l.length) (fun k=>l.length - k) 0 (Nat.zero_le _) ?_ rfl ?_
  · simp only[↓eA,eB,evU,seval]
    try rfl
  rintro k hk
  cases hc : l[k]? with
  | none =>
    have hge : l.length ≤ k:=List.getElem?_eq_none_iff.1 hc
    have hlt : ¬ ((k : Int) < l.length):=by omega
    simp (disch:=first|omega|(simp only[lenT];omega)) only[dF hlt,evSt,↓eA,eB,evU,seval]
  | some y =>
    have hlt':=(List.getElem?_eq_some_iff.1 hc).1
    have hlt : (k : Int) < l.length:=by omega
    have hk1 : (k : Int) + 1 = ((k + 1 : Nat) : Int):=by omega
    simp (disch:=first|omega|(simp only[lenT];omega)) only[dT hlt,hc,txR,eq_self,wrap_i64,hk1,evSt,↓eA,eB,evU,seval]
    exact ⟨k + 1,by omega,by omega,by first | rfl | exact ⟨rfl,rfl⟩⟩
set_option maxRecDepth 20000 in
set_option maxHeartbeats 4000000 in
theorem sameTrip_A (t : Trp) (h1 : t.cars.length ≤ 1000) (h2 : t.nums.length ≤ 1000) (h3 : t.vias.length ≤ 1000) (S : Store) : CallA Tryz.prog 12 [.agg (trpR t),.agg (trpR t)] S fun v S'=>v = .bool true ∧ S' = S:=by
  refine CallA.keep Tryz.func12 c5025 (Nat.le_of_ble_eq_true rfl) fun σ hσ=>?_
  simp (disch:=first|omega|(simp only[lenT];omega)) only[a5025,trpR,eq_self,evSt,↓eA,eB,evU,seval]
  refine loopA (ι:=Nat) (fun k=>[(2,.cptr (trpR t)),(3,.cptr (trpR t)),(5,.int .i64 (k : Nat))]) (fun _=>S) (fun k=>k ≤ t.cars.length) (fun k=>t.cars.length - k) 0 (Nat.zero_le _) ?_ rfl ?_
  · simp only[trpR,↓eA,eB,evU,seval]
    try rfl
  rintro k hk
  cases hc : t.cars[k]? with
  | some y =>
    have hlt':=(List.getElem?_eq_some_iff.1 hc).1
    have hlt : (k : Int) < t.cars.length:=by omega
    have hk1 : (k : Int) + 1 = ((k + 1 : Nat) : Int):=by omega
    simp (disch:=first|omega|(simp only[lenT];omega)) only[dT hlt,hc,txR,inR,trpR,eq_self,wrap_i64,hk1,evSt,↓eA,eB,evU,seval]
    exact ⟨k + 1,by omega,by omega,by first | rfl | exact ⟨rfl,rfl⟩ | exact ⟨rfl,rfl,rfl⟩⟩
  | none =>
  have hge : t.cars.length ≤ k:=List.getElem?_eq_none_iff.1 hc
  have hlt : ¬ ((k : Int) < t.cars.length):=by omega
  simp (disch:=first|omega|(simp only[lenT];omega)) only[dF hlt,trpR,evSt,↓eA,eB,evU,seval]
  refine loopA (ι:=Nat) (fun k=>[(2,.cptr (trpR t)),(3,.cptr (trpR t)),(6,.int .i64 (k : Nat))]) (fun _=>S) (fun k=>k ≤ t.nums.length) (fun k=>t.nums.length - k) 0 (Nat.zero_le _) ?_ rfl ?_
  · simp only[trpR,↓eA,eB,evU,seval]
    try rfl
  rintro k hk
  cases hc : t.nums[k]? with
  | some y =>
    have hlt':=(List.getElem?_eq_some_iff.1 hc).1
    have hlt : (k : Int) < t.nums.length:=by omega
    have hk1 : (k : Int) + 1 = ((k + 1 : Nat) : Int):=by omega
    simp (disch:=first|omega|(simp only[lenT];omega)) only[dT hlt,hc,txR,inR,trpR,eq_self,wrap_i64,hk1,evSt,↓eA,eB,evU,seval]
    exact ⟨k + 1,by omega,by omega,by first | rfl | exact ⟨rfl,rfl⟩ | exact ⟨rfl,rfl,rfl⟩⟩
  | none =>
  have hge : t.nums.length ≤ k:=List.getElem?_eq_none_iff.1 hc
  have hlt : ¬ ((k : Int) < t.nums.length):=by omega
  simp (disch:=first|omega|(simp only[lenT];omega)) only[dF hlt,trpR,evSt,↓eA,eB,evU,seval]
  refine loopA (ι:=Nat) (fun k=>[(2,.cptr (trpR t)),(3,.cptr (trpR t)),(7,.int .i64 (k : Nat))]) (fun _=>S) (fun k=>k ≤ t.vias.length) (fun k=>t.vias.length - k) 0 (Nat.zero_le _) ?_ rfl ?_
  · simp only[trpR,↓eA,eB,evU,seval]
    try rfl
  rintro k hk
  cases hc : t.vias[k]? with
  | some y =>
    have hlt':=(List.getElem?_eq_some_iff.1 hc).1
    have hlt : (k : Int) < t.vias.length:=by omega
    have hk1 : (k : Int) + 1 = ((k + 1 : Nat) : Int):=by omega
    simp (disch:=first|omega|(simp only[lenT];omega)) only[dT hlt,hc,txR,inR,trpR,eq_self,wrap_i64,hk1,evSt,↓eA,eB,evU,seval]
    exact ⟨k + 1,by omega,by omega,by first | rfl | exact ⟨rfl,rfl⟩ | exact ⟨rfl,rfl,rfl⟩⟩
  | none =>
  have hge : t.vias.length ≤ k:=List.getElem?_eq_none_iff.1 hc
  have hlt : ¬ ((k : Int) < t.vias.length):=by omega
  simp (disch:=first|omega|(simp only[lenT];omega)) only[dF hlt,trpR,evSt,↓eA,eB,evU,seval]
structure Sml (p : Pls) (t : Tar) (l : List Wnt) : Prop where
  apts : p.1.length ≤ 20
  dsts : p.2.length ≤ 40
  fares : t.fares.length ≤ 40
  rules : t.rules.length ≤ 10
  routs : t.routs.length ≤ 10
  segs : l.length ≤ 8
  w : WOk l
set_option maxHeartbeats 4000000 in
set_option maxRecDepth 10000 in
theorem big_A (p : Pls) (t : Tar) (tx : List (List V)) (l : List Wnt) (S : Store) : CallA Tryz.prog 22 [plV p,.agg (tarV t tx),.sl 8 (l.map wntR)] S fun v S'=>∃ b,v = .bool b ∧ (b = false → Sml p t l) ∧ S' = S:=by
  refine CallA.withNeat Tryz.func22 c5026 fun hn=>?_
  refine (CallA.fin Tryz.func22 c5026 (R:=fun v S'=>(∃ b,v = .bool b ∧ (b = false → Sml p t l)) ∧ S' = S) (Nat.le_of_ble_eq_true rfl) fun σ hσ=>?_).mono fun v S' ⟨⟨b,h1,h2⟩,h3⟩=>⟨b,h1,h2,h3⟩
  by_cases h0 : (20 : Int) < (p.1.length : Nat)
  · simp (disch:=first|omega|(simp only[lenT];omega)) only[a5026,plV,tarV,dT h0,evSt,↓eA,eB,evU,seval]
    exact ⟨_,S,hn.self,.imm rfl,Nat.le_refl _,⟨_,rfl,fun h=>by cases h⟩,rfl⟩
  by_cases h1 : (40 : Int) < (p.2.length : Nat)
  · simp (disch:=first|omega|(simp only[lenT];omega)) only[a5026,plV,tarV,dF h0,dT h1,evSt,↓eA,eB,evU,seval]
    exact ⟨_,S,hn.self,.imm rfl,Nat.le_refl _,⟨_,rfl,fun h=>by cases h⟩,rfl⟩
  by_cases h2 : (40 : Int) < (t.fares.length : Nat)
  · simp (disch:=first|omega|(simp only[lenT];omega)) only[a5026,plV,tarV,dF h0,dF h1,dT h2,evSt,↓eA,eB,evU,seval]
    exact ⟨_,S,hn.self,.imm rfl,Nat.le_refl _,⟨_,rfl,fun h=>by cases h⟩,rfl⟩
  by_cases h3 : (10 : Int) < (t.rules.length : Nat)
  · simp (disch:=first|omega|(simp only[lenT];omega)) only[a5026,plV,tarV,dF h0,dF h1,dF h2,dT h3,evSt,↓eA,eB,evU,seval]
    exact ⟨_,S,hn.self,.imm rfl,Nat.le_refl _,⟨_,rfl,fun h=>by cases h⟩,rfl⟩
  by_cases h4 : (10 : Int) < (t.routs.length : Nat)
  · simp (disch:=first|omega|(simp only[lenT];omega)) only[a5026,plV,tarV,dF h0,dF h1,dF h2,dF h3,dT h4,evSt,↓eA,eB,evU,seval]
    exact ⟨_,S,hn.self,.imm rfl,Nat.le_refl _,⟨_,rfl,fun h=>by cases h⟩,rfl⟩
  by_cases h5 : (10 : Int) < (tx.length : Nat)
  · simp (disch:=first|omega|(simp only[lenT];omega)) only[a5026,plV,tarV,dF h0,dF h1,dF h2,dF h3,dF h4,dT h5,evSt,↓eA,eB,evU,seval]
    exact ⟨_,S,hn.self,.imm rfl,Nat.le_refl _,⟨_,rfl,fun h=>by cases h⟩,rfl⟩
  by_cases h6 : (8 : Int) < (l.length : Nat)
  · simp (disch:=first|omega|(simp only[lenT];omega)) only[a5026,plV,tarV,dF h0,dF h1,dF h2,dF h3,dF h4,dF h5,dT h6,evSt,↓eA,eB,evU,seval]
    exact ⟨_,S,hn.self,.imm rfl,Nat.le_refl _,⟨_,rfl,fun h=>by cases h⟩,rfl⟩
  simp (disch:=first|omega|(simp only[lenT];omega)) only[a5026,plV,tarV,dF h0,dF h1,dF h2,dF h3,dF h4,dF h5,dF h6,evSt,↓eA,eB,evU,seval]
  refine loopF (ι:=Nat) (fun k=>[(2,.sl 8 (l.map wntR)),(7,.int .i64 (k : Nat))]) (fun _=>S) (fun k=>k ≤ l.length ∧ WOk (l.take k)) (fun k=>l.length - k) (fun i hi=>by rw[hσ];exact Nat.le_refl _) 0 ⟨Nat.zero_le _,fun w hw=>by simp at hw⟩ (.inl ⟨?_,rfl⟩) ?_
  · simp only[↓eA,eB,evU,seval]
    try rfl
  rintro k ⟨hk,hin⟩
  cases hc : l[k]? with
  | none =>
    have hge : l.length ≤ k:=List.getElem?_eq_none_iff.1 hc
    have hlt : ¬ ((k : Int) < l.length):=by omega
    rw[List.take_of_length_le hge] at hin
    simp (disch:=first|omega|(simp only[lenT];omega)) only[dF hlt,evSt,↓eA,eB,evU,seval]
    exact ⟨_,S,hn.self,.imm rfl,Nat.le_refl _,⟨_,rfl,fun _=>⟨by omega,by omega,by omega,by omega,by omega,by omega,hin⟩⟩,rfl⟩
  | some y =>
    have hlt':=(List.getElem?_eq_some_iff.1 hc).1
    have hlt : (k : Int) < l.length:=by omega
    have hk1 : (k : Int) + 1 = ((k + 1 : Nat) : Int):=by omega
    by_cases d1 : y.s.dep < 0
    · simp (disch:=first|omega|(simp only[lenT];omega)) only[dT hlt,hc,dT d1,wntR,sgR,evSt,↓eA,eB,evU,seval]
      exact ⟨_,S,hn.fgt _,.imm rfl,Nat.le_refl _,⟨_,rfl,fun h=>by cases h⟩,rfl⟩
    by_cases d2 : 52596000 ≤ y.s.dep
    · simp (disch:=first|omega|(simp only[lenT];omega)) only[dT hlt,hc,dF d1,dT d2,wntR,sgR,evSt,↓eA,eB,evU,seval]
      exact ⟨_,S,hn.fgt _,.imm rfl,Nat.le_refl _,⟨_,rfl,fun h=>by cases h⟩,rfl⟩
    by_cases d3 : y.s.arr < 0
    · simp (disch:=first|omega|(simp only[lenT];omega)) only[dT hlt,hc,dF d1,dF d2,dT d3,wntR,sgR,evSt,↓eA,eB,evU,seval]
      exact ⟨_,S,hn.fgt _,.imm rfl,Nat.le_refl _,⟨_,rfl,fun h=>by cases h⟩,rfl⟩
    by_cases d4 : 52596000 ≤ y.s.arr
    · simp (disch:=first|omega|(simp only[lenT];omega)) only[dT hlt,hc,dF d1,dF d2,dF d3,dT d4,wntR,sgR,evSt,↓eA,eB,evU,seval]
      exact ⟨_,S,hn.fgt _,.imm rfl,Nat.le_refl _,⟨_,rfl,fun h=>by cases h⟩,rfl⟩
    simp (disch:=first|omega|(simp only[lenT];omega)) only[dT hlt,hc,dF d1,dF d2,dF d3,dF d4,wntR,sgR,wrap_i64,hk1,evSt,↓eA,eB,evU,seval]
    refine ⟨fun _=>?_,fun _=>?_⟩
    · exact ⟨_,S,hn.fgt _,.imm rfl,Nat.le_refl _,⟨_,rfl,fun h=>by cases h⟩,rfl⟩
    · refine ⟨k + 1,⟨by omega,fun w hw=>?_⟩,by omega,back_under (hn.fgt _) (by simp only[↓eA,eB,evU,seval];try rfl) (by simp [V.under,V.allUnder])⟩
      rw[take_at hc] at hw
      rcases List.mem_append.1 hw with hw | hw
      · exact hin w hw
      · rw[List.mem_singleton] at hw
        subst hw
        omega
theorem far_A (n : Int) (S : Store) : CallA Tryz.prog 15 [.int .i64 n] S fun v S'=>v = .bool (decide (n < -1099511627776) || decide (1099511627776 < n)) ∧ S' = S:=by
  refine CallA.keep Tryz.func15 c5007 (Nat.le_of_ble_eq_true rfl) fun σ hσ=>?_
  by_cases h1 : n < -1099511627776
  · simp (disch:=first|omega|(simp only[lenT];omega)) only[a5007,dT h1,Bool.true_or,evSt,↓eA,eB,evU,seval]
  · simp (disch:=first|omega|(simp only[lenT];omega)) only[a5007,dF h1,Bool.false_or,evSt,↓eA,eB,evU,seval]
def kLHR : Txt:=[76,72,82]
def kJFK : Txt:=[74,70,75]
def kCDG : Txt:=[67,68,71]
def kLON : Txt:=[76,79,78]
def kNYC : Txt:=[78,89,67]
def kPAR : Txt:=[80,65,82]
def kBA : Txt:=[66,65]
def kADT : Txt:=[65,68,84]
def p0 : Pls:=([⟨kLHR,kLON,[71,66],0,[]⟩,⟨kJFK,kNYC,[85,83],-300,[]⟩,⟨kCDG,kPAR,[70,82],60,[]⟩],[])
def l0 : List Wnt:=[⟨⟨kBA,117,9497,kLHR,kJFK,13676180,13676680⟩,[89]⟩,⟨⟨kBA,118,9497,kJFK,kCDG,13676780,13677180⟩,[89]⟩]
def r0 : Rul:=⟨1,.mk 1 [] 0 0 ⟨0,0,0⟩ [],[],0,0,0,0,[]⟩
def t0 : Tar:=⟨[⟨kBA,kLON,kPAR,[89,79,87],[89],false,10000,1,0⟩,⟨[65,70],kLON,kPAR,[89,79,87],[89],false,100,1,0⟩,⟨kBA,kLON,kPAR,[77,79,87],[77],false,100,1,0⟩],[r0],[]⟩
theorem p0_ok : POk2 p0:=⟨by decide,by decide,fun a ha=>by
  simp only[p0,List.mem_cons,List.not_mem_nil,or_false] at ha
  rcases ha with rfl | rfl | rfl<;>exact ⟨by decide,List.Pairwise.nil⟩⟩
theorem t0_ok : TOk t0:=⟨by decide,by decide,by decide,fun r hr=>by
  simp only[t0,List.mem_singleton] at hr
  subst hr
  exact ⟨⟨by decide,by decide,by decide,trivial⟩,fun q hq=>by cases hq⟩⟩
theorem l0_ok : WOk l0:=fun w hw=>by
  simp only[l0,List.mem_cons,List.not_mem_nil,or_false] at hw
  rcases hw with rfl | rfl<;>decide
theorem ex1 : citiesF p0 l0 = [kLON,kNYC,kPAR]:=by decide +kernel
theorem ex2 : (tripF p0 l0 kADT 9490).trans = 1 ∧ (tripF p0 l0 kADT 9490).stops = 0 ∧ (tripF p0 l0 kADT 9490).day = 9497 ∧ (tripF p0 l0 kADT 9490).min = 500:=by decide +kernel
theorem ex3 : whyF p0 t0 1 l0 kADT 9490 = 19:=by decide +kernel
theorem ex4 : whyF p0 t0 2 l0 kADT 9490 = 16:=by decide +kernel
theorem ex5 : partsF p0 t0 l0 kADT 9490 3 = [⟨2,0,10000⟩]:=by decide +kernel
def pV0 : V:=.agg [.sl 5 [[.str kLHR,.str kLON,.str [71,66],.int .i64 0,.nilSl],[.str kJFK,.str kNYC,.str [85,83],.int .i64 (-300),.nilSl],[.str kCDG,.str kPAR,.str [70,82],.int .i64 60,.nilSl]],.nilSl]
theorem wkP : Wk pV0 (plV p0):=Wk.aggL ⟨Wk.slL ⟨⟨.refl _,.refl _,.refl _,.refl _,.nil 2,trivial⟩,⟨.refl _,.refl _,.refl _,.refl _,.nil 2,trivial⟩,⟨.refl _,.refl _,.refl _,.refl _,.nil 2,trivial⟩,trivial⟩,.nil 3,trivial⟩
def tV0 : V:=.agg [.sl 9 (t0.fares.map frR),.sl 15 [[.int .i64 1,.int .i64 1,.nilSl,.int .i64 0,.int .i64 0,.int .i64 0,.int .i64 0,.int .i64 0,.nilSl,.nilSl,.int .i64 0,.int .i64 0,.int .i64 0,.int .i64 0,.nilSl]],.nilSl,.nilSl]
theorem wkT : Wk tV0 (.agg (tarV t0 [])):=Wk.aggL ⟨.refl _,Wk.slL ⟨⟨.refl _,.refl _,.nil 8,.refl _,.refl _,.refl _,.refl _,.refl _,.nil 1,.nil 1,.refl _,.refl _,.refl _,.refl _,.nil 2,trivial⟩,trivial⟩,.nil 3,.nil 7,trivial⟩
set_option maxRecDepth 20000 in
set_option maxHeartbeats 4000000 in
theorem awake_A (S : Store) : CallA Tryz.prog 8 [] S fun r S'=>r = .bool true ∧ S' = S:=by
  refine CallA.withNeat Tryz.func8 c5005 fun hn=>?_
  refine CallA.fin Tryz.func8 c5005 (Nat.le_of_ble_eq_true rfl) fun σ hσ=>?_
  have ci:=fun S=>(cities_A p0 p0_ok.apts l0 (by decide) S).wk (args:=[pV0,.sl 8 (l0.map wntR)]) ⟨wkP,.refl _,trivial⟩
  have tp:=fun S=>(trip_A p0 p0_ok.apts p0_ok.zns l0 (by decide) l0_ok kADT 9490 S).wk (args:=[pV0,.sl 8 (l0.map wntR),.str kADT,.int .i64 9490]) ⟨wkP,.refl _,.refl _,.refl _,trivial⟩
  have w1:=fun S=>(why_A p0 p0_ok t0 [] t0_ok 1 l0 (by decide) l0_ok kADT 9490 S).wk (args:=[pV0,tV0,.int .i64 1,.sl 8 (l0.map wntR),.str kADT,.int .i64 9490]) ⟨wkP,wkT,.refl _,.refl _,.refl _,.refl _,trivial⟩
  have w2:=fun S=>(why_A p0 p0_ok t0 [] t0_ok 2 l0 (by decide) l0_ok kADT 9490 S).wk (args:=[pV0,tV0,.int .i64 2,.sl 8 (l0.map wntR),.str kADT,.int .i64 9490]) ⟨wkP,wkT,.refl _,.refl _,.refl _,.refl _,trivial⟩
  have fa : ∀ S : Store,CallA Tryz.prog 20 [pV0,tV0,.sl 8 (l0.map wntR),.str kADT,.int .i64 9490] S fun r S'=>r = .sl 4 [[.int .i64 0,.int .i64 2,.int .i64 0,.int .i64 10000]] ∧ S' = S:=fun S=>by
    refine ((fares_A p0 p0_ok t0 [] t0_ok l0 (by decide) l0_ok kADT 9490 S).wk (args:=[pV0,tV0,.sl 8 (l0.map wntR),.str kADT,.int .i64 9490]) ⟨wkP,wkT,.refl _,.refl _,.refl _,trivial⟩).mono ?_
    rintro r S' ⟨L,rfl,⟨_,hp⟩,rfl⟩
    rw[show t0.fares.length = 3 from rfl,ex5] at hp
    rw[List.perm_singleton.1 hp]
    exact ⟨rfl,rfl⟩
  have sm:=fun S=>same_A [kLON,kNYC,kPAR] S
  rw[ex1] at ci
  rw[ex3] at w1
  rw[ex4] at w2
  obtain ⟨e1,e2,e3,e4⟩:=ex2
  generalize tripF p0 l0 kADT 9490 = tt at tp e1 e2 e3 e4
  obtain ⟨ty,sale,day,min_,stops,trans,cars,nums,vias⟩:=tt
  simp only at e1 e2 e3 e4
  subst e1 e2 e3 e4
  simp only[pV0,tV0,t0,frR,l0,wntR,sgR,trpR,kLHR,kJFK,kCDG,kLON,kNYC,kPAR,kBA,kADT,List.map_cons,List.map_nil,txR,List.cons_append,List.nil_append] at ci tp w1 w2 fa sm
  simp (disch:=first|omega|(simp only[lenT];omega)) only[a5005,evSt,↓eA,eB,evU,seval]
  refine (tp _).then ?_
  simp (disch:=first|omega|(simp only[lenT];omega)) only[evSt,↓eA,eB,evU,seval]
  refine (fa _).then ?_
  simp (disch:=first|omega|(simp only[lenT];omega)) only[evSt,↓eA,eB,evU,seval]
  refine (ci _).then ?_
  simp (disch:=first|omega|(simp only[lenT];omega)) only[evSt,↓eA,eB,evU,seval]
  refine (sm _).then ?_
  simp (disch:=first|omega|(simp only[lenT];omega)) only[evSt,↓eA,eB,evU,seval]
  refine (w1 _).then ?_
  simp (disch:=first|omega|(simp only[lenT];omega)) only[evSt,↓eA,eB,evU,seval]
  refine (w2 _).then ?_
  simp (disch:=first|omega|(simp only[lenT];omega)) only[evSt,↓eA,eB,evU,seval]
  exact ⟨_,S,hn.fgt _,.imm rfl,Nat.le_refl _,rfl,rfl⟩
end Go.Proofs.YtanmnoipikdplaaGreat
