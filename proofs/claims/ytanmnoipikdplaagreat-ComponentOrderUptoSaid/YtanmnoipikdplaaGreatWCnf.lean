/- Component: the reference's look at a tariff, and what the laws begin with. -/
import Derived.Test.YtanmnoipikdplaaGreatWCnd
namespace Go.Proofs.YtanmnoipikdplaaGreat
open Go Go.AL
set_option linter.unusedSectionVars false
variable [Go.AL.Mode]
set_option linter.unusedSimpArgs false
set_option linter.unusedVariables false
theorem class_A (s : Txt) (S : Store) : CallA Tryz.prog 88 [.str s] S fun r S'=>r = .bool (letF s 1) ∧ S' = S:=by
  refine str_len (fun hs=>?_) ⟨_,Tryz.func88,by kernel_rfl,by kernel_rfl⟩
  refine CallA.keep Tryz.func88 c3033 (Nat.le_of_ble_eq_true rfl) fun σ hσ=>?_
  have hl:=letters_A s 1 (by unfold maxLen at hs;omega) S
  simp (disch:=first|omega|(simp only[lenT];omega)) only[a3033,evSt,↓eA,eB,evU,seval]
  refine hl.then ?_
  simp (disch:=first|omega|(simp only[lenT];omega)) only[evSt,↓eA,eB,evU,seval]
theorem known_A (p : Pls) (hp : p.1.length ≤ 1000) (c : Txt) (S : Store) : CallA Tryz.prog 87 [plV p,.str c] S fun v S'=>∃ b,v = .bool b ∧ S' = S:=by
  refine CallA.keep Tryz.func87 c5050 (Nat.le_of_ble_eq_true rfl) fun σ hσ=>?_
  simp (disch:=first|omega|(simp only[lenT];omega)) only[a5050,plV,evSt,↓eA,eB,evU,seval]
  refine loopA (ι:=Nat) (fun i=>[(1,.str c),(2,.cptr [.sl 5 (p.1.map aptR),.sl 3 (p.2.map dstR)]),(5,.int .i64 (i : Nat))]) (fun _=>S) (fun i=>i ≤ p.1.length) (fun i=>p.1.length - i) 0 (Nat.zero_le _) ?_ rfl ?_
  · simp only[↓eA,eB,evU,seval]
    try rfl
  intro i hi
  cases hc : p.1[i]? with
  | none =>
    have hge:=List.getElem?_eq_none_iff.1 hc
    have hlt : ¬ ((i : Int) < p.1.length):=by omega
    simp (disch:=first|omega|(simp only[lenT];omega)) only[dF hlt,evSt,↓eA,eB,evU,seval]
    exact ⟨_,rfl⟩
  | some a =>
    have hlt':=(List.getElem?_eq_some_iff.1 hc).1
    have hlt : (i : Int) < p.1.length:=by omega
    have hi2 : (i : Int) + 1 = ((i + 1 : Nat) : Int):=by omega
    cases q : decide (a.city = c)<;>simp (disch:=first|omega|(simp only[lenT];omega)) only[dT hlt,hc,q,aptR,wrap_i64,hi2,evSt,↓eA,eB,evU,seval]
    · exact ⟨i + 1,by omega,by omega,by first | rfl | exact ⟨rfl,rfl⟩ | exact ⟨rfl,rfl,rfl⟩⟩
    · exact ⟨_,rfl⟩
def IR (r : List V) : Prop:=∃ e : Int,r = [.int .i64 e]
theorem IR.imm {r : List V} (h : IR r) : r.length = 1 ∧ V.allImm r = true:=by
  obtain ⟨e,rfl⟩:=h
  exact ⟨rfl,rfl⟩
def GK (S : Store) (m : Nat) (c3 c4 c5 : V) (E : Env) (S' : Store) : Prop:=∃ rows,LG S 47 1 rows (E.get 7) S' ∧ E.get 3 = c3 ∧ E.get 4 = c4 ∧ E.get 5 = c5 ∧ rows.length ≤ m ∧ ∀ r ∈ rows,IR r
set_option maxHeartbeats 4000000 in
set_option maxRecDepth 10000 in
theorem fare24_A (p : Pls) (hp : p.1.length ≤ 1000) (t : Tar) (tx : List (List V)) (h1 : t.rules.length ≤ 1000) (h2 : t.routs.length ≤ 1000) (f : Fr) (S : Store) :
    CallA Tryz.prog 59 [plV p,.agg (tarV t tx),.agg (frR f)] S fun v S'=>∃ rows : List (List V),v = .sl 1 rows ∧ (rows.length ≤ 6 ∧ ∀ x ∈ rows,IR x) ∧ S' = S:=by
  refine CallA.withNeat Tryz.func59 c5049z fun hn=>?_
  refine (CallA.fin Tryz.func59 c5049z (R:=fun v S'=>(∃ rows : List (List V),v = .sl 1 rows ∧ (rows.length ≤ 6 ∧ ∀ x ∈ rows,IR x)) ∧ S' = S) (Nat.le_of_ble_eq_true rfl) fun σ hσ=>?_).mono fun r S' ⟨⟨L,h1,h2⟩,h3⟩=>⟨L,h1,h2,h3⟩
  have kn:=fun c S=>known_A p hp c S
  have ru:=fun n S=>rrule_A t tx (by omega) n S
  have ro:=fun n S=>rrout_A t tx (by omega) n S
  simp only[plV,tarV,frR] at kn ru ro ⊢
  simp only[a5049z]
  obtain ⟨c3,hc3⟩ : ∃ c3,c3 = V.cptr [.sl 5 (p.1.map aptR),.sl 3 (p.2.map dstR)]:=⟨_,rfl⟩
  obtain ⟨c4,hc4⟩ : ∃ c4,c4 = V.cptr [.sl 9 (t.fares.map frR),.sl 15 (t.rules.map rulR),.sl 3 (t.routs.map rouR),.sl 7 tx]:=⟨_,rfl⟩
  obtain ⟨c5,hc5⟩ : ∃ c5,c5 = V.cptr [.str f.c,.str f.f,.str f.t,.str f.bas,.str f.cl,.bool f.rnd,.int .i64 f.am,.int .i64 f.rule,.int .i64 f.rout]:=⟨_,rfl⟩
  refine stageA (fun E S'=>E.get 3 = c3 ∧ E.get 4 = c4 ∧ E.get 5 = c5 ∧ S' = S) ?_ ?_
  · intro K hK
    simp (disch:=first|omega|(simp only[lenT];omega)) only[evSt,↓eA,eB,evU,seval]
    exact hK _ _ ⟨hc3.symm,hc4.symm,hc5.symm,rfl⟩
  rintro E S2 ⟨e3,e4,e5,hS2⟩
  rw[hS2]
  clear hS2 S2
  refine stageA (GK S 0 c3 c4 c5) ?_ ?_
  · intro K hK
    simp (disch:=first|omega|(simp only[lenT];omega)) only[evSt,↓eA,eB,evU,seval]
    exact hK _ _ ⟨[],LG.nil0,e3,e4,e5,Nat.le_refl _,(fun _ h=>by cases h)⟩
  clear e3 e4 e5
  rintro E S1 ⟨rows,hg,e3,e4,e5,hl,hf⟩
  refine stageA (GK S 1 c3 c4 c5) ?_ ?_
  · intro K hK
    simp (disch:=first|omega|(simp only[lenT];omega)) only[e3,e4,e5,hc3,hc5,evSt,↓eA,eB,evU,seval]
    refine ((rcarrierT_A f.c S1).mono fun r S' ⟨h1,h2⟩=>(⟨_,h1,h2⟩ : ∃ z,r = V.bool z ∧ S' = S1)).mono ?_
    rintro _ S2 ⟨z1,rfl,hS2⟩
    rw[hS2]
    clear hS2 S2
    cases z1
    case false =>
      simp (disch:=first|omega|(simp only[lenT];omega)) only[evSt,↓eA,eB,evU,seval]
      first
        | exact hK _ _ ⟨rows,hg,e3,e4,e5,by omega,hf⟩
        | (refine hg.app (by simp;omega) fun v' S2 h2=>?_
           simp (disch:=first|omega|(simp only[lenT];omega)) only[evSt,↓eA,eB,evU,seval]
           exact hK _ _ ⟨_,h2,e3,e4,e5,by simp only[List.length_append,List.length_singleton];omega,all_snoc hf ⟨_,rfl⟩⟩)
    simp (disch:=first|omega|(simp only[lenT];omega)) only[e3,e4,e5,hc3,hc5,evSt,↓eA,eB,evU,seval]
    refine ((rcodeT_A f.bas 1 8 S1).mono fun r S' ⟨h1,h2⟩=>(⟨_,h1,h2⟩ : ∃ z,r = V.bool z ∧ S' = S1)).mono ?_
    rintro _ S2 ⟨z2,rfl,hS2⟩
    rw[hS2]
    clear hS2 S2
    cases z2<;>simp (disch:=first|omega|(simp only[lenT];omega)) only[evSt,↓eA,eB,evU,seval]
    all_goals
      first
        | exact hK _ _ ⟨rows,hg,e3,e4,e5,by omega,hf⟩
        | (refine hg.app (by simp;omega) fun v' S2 h2=>?_
           simp (disch:=first|omega|(simp only[lenT];omega)) only[evSt,↓eA,eB,evU,seval]
           exact hK _ _ ⟨_,h2,e3,e4,e5,by simp only[List.length_append,List.length_singleton];omega,all_snoc hf ⟨_,rfl⟩⟩)
  clear hg hl hf e3 e4 e5
  rintro E S1 ⟨rows,hg,e3,e4,e5,hl,hf⟩
  refine stageA (GK S 2 c3 c4 c5) ?_ ?_
  · intro K hK
    simp (disch:=first|omega|(simp only[lenT];omega)) only[e3,e4,e5,hc3,hc5,evSt,↓eA,eB,evU,seval]
    refine (kn f.f _).mono ?_
    rintro _ S2 ⟨z1,rfl,hS2⟩
    rw[hS2]
    clear hS2 S2
    cases z1
    case false =>
      simp (disch:=first|omega|(simp only[lenT];omega)) only[evSt,↓eA,eB,evU,seval]
      first
        | exact hK _ _ ⟨rows,hg,e3,e4,e5,by omega,hf⟩
        | (refine hg.app (by simp;omega) fun v' S2 h2=>?_
           simp (disch:=first|omega|(simp only[lenT];omega)) only[evSt,↓eA,eB,evU,seval]
           exact hK _ _ ⟨_,h2,e3,e4,e5,by simp only[List.length_append,List.length_singleton];omega,all_snoc hf ⟨_,rfl⟩⟩)
    simp (disch:=first|omega|(simp only[lenT];omega)) only[e3,e4,e5,hc3,hc5,evSt,↓eA,eB,evU,seval]
    refine (kn f.t _).mono ?_
    rintro _ S2 ⟨z2,rfl,hS2⟩
    rw[hS2]
    clear hS2 S2
    cases z2<;>simp (disch:=first|omega|(simp only[lenT];omega)) only[evSt,↓eA,eB,evU,seval]
    all_goals
      first
        | exact hK _ _ ⟨rows,hg,e3,e4,e5,by omega,hf⟩
        | (refine hg.app (by simp;omega) fun v' S2 h2=>?_
           simp (disch:=first|omega|(simp only[lenT];omega)) only[evSt,↓eA,eB,evU,seval]
           exact hK _ _ ⟨_,h2,e3,e4,e5,by simp only[List.length_append,List.length_singleton];omega,all_snoc hf ⟨_,rfl⟩⟩)
  clear hg hl hf e3 e4 e5
  rintro E S1 ⟨rows,hg,e3,e4,e5,hl,hf⟩
  refine stageA (GK S 3 c3 c4 c5) ?_ ?_
  · intro K hK
    cases q1 : decide (f.f = f.t)<;>cases q2 : decide (f.am < 0)<;>cases q3 : decide (1099511627776 < f.am)<;>simp (disch:=first|omega|(simp only[lenT];omega)) only[e3,e4,e5,hc5,q1,q2,q3,evSt,↓eA,eB,evU,seval]
    all_goals
      first
        | exact hK _ _ ⟨rows,hg,e3,e4,e5,by omega,hf⟩
        | (refine hg.app (by simp;omega) fun v' S2 h2=>?_
           simp (disch:=first|omega|(simp only[lenT];omega)) only[evSt,↓eA,eB,evU,seval]
           exact hK _ _ ⟨_,h2,e3,e4,e5,by simp only[List.length_append,List.length_singleton];omega,all_snoc hf ⟨_,rfl⟩⟩)
  clear hg hl hf e3 e4 e5
  rintro E S1 ⟨rows,hg,e3,e4,e5,hl,hf⟩
  refine stageA (GK S 4 c3 c4 c5) ?_ ?_
  · intro K hK
    simp (disch:=first|omega|(simp only[lenT];omega)) only[e3,e4,e5,hc5,evSt,↓eA,eB,evU,seval]
    refine (class_A f.cl S1).then ?_
    cases letF f.cl 1<;>simp (disch:=first|omega|(simp only[lenT];omega)) only[evSt,↓eA,eB,evU,seval]
    all_goals
      first
        | exact hK _ _ ⟨rows,hg,e3,e4,e5,by omega,hf⟩
        | (refine hg.app (by simp;omega) fun v' S2 h2=>?_
           simp (disch:=first|omega|(simp only[lenT];omega)) only[evSt,↓eA,eB,evU,seval]
           exact hK _ _ ⟨_,h2,e3,e4,e5,by simp only[List.length_append,List.length_singleton];omega,all_snoc hf ⟨_,rfl⟩⟩)
  clear hg hl hf e3 e4 e5
  rintro E S1 ⟨rows,hg,e3,e4,e5,hl,hf⟩
  refine stageA (fun E S'=>GK S 4 c3 c4 c5 E S' ∧ ∃ b,E.get 9 = .bool b) ?_ ?_
  · intro K hK
    have rl:=ru f.rule S1
    simp only[oRul] at rl
    generalize (ruleF t f.rule).isSome = ok at rl
    generalize (ruleF t f.rule).getD zRul = rr at rl
    obtain ⟨n0,⟨c1,c2,c3',c4',c5',c6⟩,cb,mn,mx,ch,rf,per⟩:=rr
    simp only[rulR,Cnd.row,List.cons_append,List.nil_append] at rl
    simp (disch:=first|omega|(simp only[lenT];omega)) only[e3,e4,e5,hc4,hc5,evSt,↓eA,eB,evU,seval]
    refine rl.then ?_
    simp (disch:=first|omega|(simp only[lenT];omega)) only[evSt,↓eA,eB,evU,seval]
    exact hK _ _ ⟨⟨rows,hg.add _,e3,e4,e5,hl,hf⟩,_,rfl⟩
  clear hg hl hf e3 e4 e5
  rintro E S1 ⟨⟨rows,hg,e3,e4,e5,hl,hf⟩,ok,e9⟩
  refine stageA (GK S 5 c3 c4 c5) ?_ ?_
  · intro K hK
    cases ok<;>simp (disch:=first|omega|(simp only[lenT];omega)) only[e9,evSt,↓eA,eB,evU,seval]
    all_goals
      first
        | exact hK _ _ ⟨rows,hg,e3,e4,e5,by omega,hf⟩
        | (refine hg.app (by simp;omega) fun v' S2 h2=>?_
           simp (disch:=first|omega|(simp only[lenT];omega)) only[evSt,↓eA,eB,evU,seval]
           exact hK _ _ ⟨_,h2,e3,e4,e5,by simp only[List.length_append,List.length_singleton];omega,all_snoc hf ⟨_,rfl⟩⟩)
  clear e9
  clear hg hl hf e3 e4 e5
  rintro E S1 ⟨rows,hg,e3,e4,e5,hl,hf⟩
  refine stageA (fun E S'=>GK S 5 c3 c4 c5 E S' ∧ ∃ b,E.get 9 = .bool b) ?_ ?_
  · intro K hK
    have rl:=ro f.rout S1
    simp only[oRou] at rl
    simp (disch:=first|omega|(simp only[lenT];omega)) only[e3,e4,e5,hc4,hc5,evSt,↓eA,eB,evU,seval]
    refine rl.then ?_
    simp (disch:=first|omega|(simp only[lenT];omega)) only[evSt,↓eA,eB,evU,seval]
    exact hK _ _ ⟨⟨rows,hg,e3,e4,e5,hl,hf⟩,_,rfl⟩
  clear hg hl hf e3 e4 e5
  rintro E S1 ⟨⟨rows,hg,e3,e4,e5,hl,hf⟩,ok,e9⟩
  refine stageA (GK S 6 c3 c4 c5) ?_ ?_
  · intro K hK
    by_cases h0 : f.rout = 0
    · simp (disch:=first|omega|(simp only[lenT];omega)) only[e5,hc5,e9,dT h0,evSt,↓eA,eB,evU,seval]
      first
        | exact hK _ _ ⟨rows,hg,e3,e4,e5,by omega,hf⟩
        | (refine hg.app (by simp;omega) fun v' S2 h2=>?_
           simp (disch:=first|omega|(simp only[lenT];omega)) only[evSt,↓eA,eB,evU,seval]
           exact hK _ _ ⟨_,h2,e3,e4,e5,by simp only[List.length_append,List.length_singleton];omega,all_snoc hf ⟨_,rfl⟩⟩)
    cases ok<;>simp (disch:=first|omega|(simp only[lenT];omega)) only[e5,hc5,e9,dF h0,evSt,↓eA,eB,evU,seval]
    all_goals
      first
        | exact hK _ _ ⟨rows,hg,e3,e4,e5,by omega,hf⟩
        | (refine hg.app (by simp;omega) fun v' S2 h2=>?_
           simp (disch:=first|omega|(simp only[lenT];omega)) only[evSt,↓eA,eB,evU,seval]
           exact hK _ _ ⟨_,h2,e3,e4,e5,by simp only[List.length_append,List.length_singleton];omega,all_snoc hf ⟨_,rfl⟩⟩)
  clear e9
  clear hg hl hf e3 e4 e5
  rintro E S1 ⟨rows,hg,e3,e4,e5,hl,hf⟩
  simp (disch:=first|omega|(simp only[lenT];omega)) only[evSt,↓eA,eB,evU,seval]
  have hfin:=hg.fin hn fun r hr=>(hf r hr).imm
  exact ⟨_,S,hfin.1,hfin.2,Nat.le_refl _,⟨_,rfl,hl,hf⟩,rfl⟩
def GT (S : Store) (m : Nat) (c2 c3 : V) (P : Prop) (E : Env) (S' : Store) : Prop:=∃ rows,LG S 111 2 rows (E.get 5) S' ∧ E.get 2 = c2 ∧ E.get 3 = c3 ∧ rows.length ≤ m ∧ (∀ r ∈ rows,FI r) ∧ (rows = [] → P)
structure TSm (t : Tar) : Prop where
  fares : t.fares.length ≤ 1048576
  rules : t.rules.length ≤ 1048576
  routs : t.routs.length ≤ 1048576
  per : ∀ r ∈ t.rules,r.comb.length ≤ 1048576 ∧ r.per.length ≤ 1048576
  links : ∀ r ∈ t.routs,r.links.length ≤ 1048576
def txFare : Txt:=[102,97,114,101,32]
def txRule : Txt:=[114,117,108,101,32]
def txRout : Txt:=[114,111,117,116,105,110,103,32]
set_option maxHeartbeats 4000000 in
set_option maxRecDepth 10000 in
theorem check24_A (p : Pls) (hp : p.1.length ≤ 1000) (t : Tar) (tx : List (List V)) (ht : TSm t) (h0 : t.fares.length ≤ 1000) (h1 : t.rules.length ≤ 10) (h2 : t.routs.length ≤ 10) (S : Store) :
    CallA Tryz.prog 24 [plV p,.agg (tarV t tx)] S fun v S'=>∃ rows : List (List V),v = .sl 2 rows ∧ (rows = [] → ∀ r ∈ t.rules,RulOk r) ∧ S' = S:=by
  refine CallA.withNeat Tryz.func24 c5048 fun hn=>?_
  refine (CallA.fin Tryz.func24 c5048 (R:=fun v S'=>(∃ rows : List (List V),v = .sl 2 rows ∧ (rows = [] → ∀ r ∈ t.rules,RulOk r)) ∧ S' = S) (Nat.le_of_ble_eq_true rfl) fun σ hσ=>?_).mono fun r S' ⟨⟨L,h1,h2⟩,h3⟩=>⟨L,h1,h2,h3⟩
  have fa:=fun f S=>fare24_A p hp t tx (by omega) (by omega) f S
  simp only[plV,tarV] at fa ⊢
  simp only[a5048]
  obtain ⟨c2,hc2⟩ : ∃ c2,c2 = V.cptr [.sl 5 (p.1.map aptR),.sl 3 (p.2.map dstR)]:=⟨_,rfl⟩
  obtain ⟨c3,hc3⟩ : ∃ c3,c3 = V.cptr [.sl 9 (t.fares.map frR),.sl 15 (t.rules.map rulR),.sl 3 (t.routs.map rouR),.sl 7 tx]:=⟨_,rfl⟩
  refine stageA (fun E S'=>E.get 2 = c2 ∧ E.get 3 = c3 ∧ S' = S) ?_ ?_
  · intro K hK
    simp (disch:=first|omega|(simp only[lenT];omega)) only[evSt,↓eA,eB,evU,seval]
    exact hK _ _ ⟨hc2.symm,hc3.symm,rfl⟩
  rintro E S2 ⟨e2,e3,hS2⟩
  rw[hS2]
  clear hS2 S2
  refine stageA (GT S 0 c2 c3 True) ?_ ?_
  · intro K hK
    simp (disch:=first|omega|(simp only[lenT];omega)) only[evSt,↓eA,eB,evU,seval]
    exact hK _ _ ⟨[],LG.nil0,e2,e3,Nat.le_refl _,(fun _ h=>by cases h),fun _=>trivial⟩
  clear e2 e3
  rintro E S1 ⟨rows,hg,e2,e3,hl,hf,hP⟩
  refine stageA (GT S 1 c2 c3 True) ?_ ?_
  · intro K hK
    cases q1 : decide ((512 : Int) < (t.fares.length : Nat))<;>simp (disch:=first|omega|(simp only[lenT];omega)) only[e3,hc3,q1,evSt,↓eA,eB,evU,seval]
    all_goals
      first
        | exact hK _ _ ⟨rows,hg,e2,e3,by omega,hf,hP⟩
        | (refine hg.app (by simp;omega) fun v' S2 h2=>?_
           simp (disch:=first|omega|(simp only[lenT];omega)) only[evSt,↓eA,eB,evU,seval]
           exact hK _ _ ⟨_,h2,e2,e3,by simp only[List.length_append,List.length_singleton];omega,all_snoc hf (FI.one _ _),fun _=>trivial⟩)
  clear hg hl hf hP e2 e3
  rintro E S1 ⟨rows,hg,e2,e3,hl,hf,hP⟩
  clear hP
  refine stageA (GT S 10000 c2 c3 True) ?_ ?_
  · intro K hK
    simp (disch:=first|omega|(simp only[lenT];omega)) only[evSt,↓eA,eB,evU,seval]
    refine loopA (ι:=Nat × List (List V) × V × Store) (fun i=>[(2,c2),(3,c3),(5,i.2.2.1),(6,.int .i64 (i.1 : Nat))]) (fun i=>i.2.2.2)
      (fun i=>i.1 ≤ t.fares.length ∧ LG S 111 2 i.2.1 i.2.2.1 i.2.2.2 ∧ i.2.1.length ≤ 1 + 6 * i.1 ∧ ∀ r ∈ i.2.1,FI r) (fun i=>t.fares.length - i.1) (0,rows,E.get 5,S1) ⟨Nat.zero_le _,hg,hl,hf⟩ ?_ rfl ?_
    · simp only[e2,e3,↓eA,eB,evU,seval]
      try rfl
    clear hg hl hf e2 e3
    rintro ⟨i,rows,v,S1⟩ ⟨hi,hg,hl,hf⟩
    simp only at hi hg hl hf ⊢
    refine stageA (fun E' S'=>(i : Int) < t.fares.length ∧ E'.get 2 = c2 ∧ E'.get 3 = c3 ∧ E'.get 5 = v ∧ E'.get 6 = .int .i64 (i : Nat) ∧ S' = S1) ?_ ?_
    · intro K2 hK2
      by_cases hlt : (i : Int) < t.fares.length
      · simp (disch:=first|omega|(simp only[lenT];omega)) only[hc3,dT hlt,evSt,↓eA,eB,evU,seval]
        exact hK2 _ _ ⟨hlt,rfl,hc3.symm,rfl,rfl,rfl⟩
      · simp (disch:=first|omega|(simp only[lenT];omega)) only[hc3,dF hlt,evSt,↓eA,eB,evU,seval]
        exact hK _ _ ⟨rows,hg,rfl,hc3.symm,by omega,hf,fun _=>trivial⟩
    rintro E S2 ⟨hlt,e2,e3,e5,e6,hS2⟩
    rw[hS2]
    clear hS2 S2
    obtain ⟨f,hc⟩ : ∃ y,t.fares[i]? = some y:=⟨_,List.getElem?_eq_getElem (by omega)⟩
    have hi2 : (i : Int) + 1 = ((i + 1 : Nat) : Int):=by omega
    refine stageA (fun E' S'=>GT S (7 + 6 * i) c2 c3 True E' S' ∧ E'.get 6 = .int .i64 (i : Nat)) ?_ ?_
    · intro K2 hK2
      refine stageA (fun E' S'=>∃ es : List (List V),E'.get 7 = .sl 1 es ∧ (es.length ≤ 6 ∧ ∀ r ∈ es,IR r) ∧ E'.get 2 = c2 ∧ E'.get 3 = c3 ∧ E'.get 5 = v ∧ E'.get 6 = .int .i64 (i : Nat) ∧ S' = S1) ?_ ?_
      · intro K3 hK3
        have fr:=fa f S1
        simp only[frR] at fr
        simp (disch:=first|omega|(simp only[lenT];omega)) only[e2,e3,e5,e6,hc2,hc3,hc,frR,evSt,↓eA,eB,evU,seval]
        refine fr.mono ?_
        rintro _ S2 ⟨es,rfl,hes,hS2⟩
        rw[hS2]
        clear hS2 S2
        simp (disch:=first|omega|(simp only[lenT];omega)) only[evSt,↓eA,eB,evU,seval]
        exact hK3 _ _ ⟨es,rfl,hes,e2,e3,e5,e6,rfl⟩
      clear e2 e3 e5 e6
      rintro E S2 ⟨es,e7,⟨hes,her⟩,e2,e3,e5,e6,hS2⟩
      rw[hS2]
      clear hS2 S2
      obtain ⟨at_,hadd,hat⟩ : ∃ at_ : Txt,binV .add (.str txFare) (.str (decX i)) = some (.str at_) ∧ at_.length ≤ 40:=⟨_,add_dec txFare i (by decide),dec_le txFare i (by decide)⟩
      simp only[txFare] at hadd
      simp (disch:=first|omega|(simp only[lenT];omega)) only[evSt,↓eA,eB,evU,seval]
      refine loopA (ι:=Nat × List (List V) × V × Store) (fun k=>[(2,c2),(3,c3),(5,k.2.2.1),(6,.int .i64 (i : Nat)),(7,.sl 1 es),(8,.int .i64 (k.1 : Nat))]) (fun i=>i.2.2.2)
        (fun k=>k.1 ≤ es.length ∧ LG S 111 2 k.2.1 k.2.2.1 k.2.2.2 ∧ k.2.1.length ≤ 1 + 6 * i + k.1 ∧ ∀ r ∈ k.2.1,FI r) (fun k=>es.length - k.1) (0,rows,v,S1) ⟨Nat.zero_le _,hg,hl,hf⟩ ?_ rfl ?_
      · simp only[e2,e3,e5,e6,e7,↓eA,eB,evU,seval]
        try rfl
      clear hg hl hf e2 e3 e5 e6 e7
      rintro ⟨k,rows,v,S1⟩ ⟨hk,hg,hl,hf⟩
      simp only at hk hg hl hf ⊢
      cases hck : es[k]? with
      | none =>
        have hge:=List.getElem?_eq_none_iff.1 hck
        have hltk : ¬ ((k : Int) < es.length):=by omega
        simp (disch:=first|omega|(simp only[lenT];omega)) only[dF hltk,evSt,↓eA,eB,evU,seval]
        exact hK2 _ _ ⟨⟨rows,hg,rfl,rfl,by omega,hf,fun _=>trivial⟩,rfl⟩
      | some x =>
        have hltk':=(List.getElem?_eq_some_iff.1 hck).1
        have hltk : (k : Int) < es.length:=by omega
        have hk2 : (k : Int) + 1 = ((k + 1 : Nat) : Int):=by omega
        obtain ⟨e,rfl⟩:=her x (List.mem_of_getElem? hck)
        simp (disch:=first|omega|(simp only[lenT];omega)) only[dT hltk,hck,evSt,↓eA,eB,evU,seval]
        refine exD.intro (decX_A i (by omega) _) ?_
        simp (disch:=first|omega|(simp only[lenT];omega)) only[hadd,evSt,↓eA,eB,evU,seval]
        refine hg.app (by simp;omega) fun v' S2 h2=>?_
        simp (disch:=first|omega|(simp only[lenT];omega)) only[wrap_i64,hk2,evSt,↓eA,eB,evU,seval]
        exact ⟨(k + 1,_,v',S2),⟨by simp only;omega,h2,by simp only[List.length_append,List.length_singleton];omega,all_snoc hf (FI.one _ _)⟩,by simp only;omega,⟨rfl,rfl⟩,rfl⟩
    clear hg hl hf e2 e3 e5 e6
    rintro E S1 ⟨⟨rows,hg,e2,e3,hl,hf,-⟩,e6⟩
    simp (disch:=first|omega|(simp only[lenT];omega)) only[e6,wrap_i64,hi2,evSt,↓eA,eB,evU,seval]
    exact ⟨(i + 1,rows,E.get 5,S1),⟨by simp only;omega,hg,by simp only;omega,hf⟩,by simp only;omega,⟨e2,e3,rfl,rfl⟩,rfl⟩
  clear hg hl hf e2 e3
  rintro E S1 ⟨rows,hg,e2,e3,hl,hf,hP⟩
  refine stageA (GT S 300000000 c2 c3 (∀ r ∈ t.rules,RulOk r)) ?_ ?_
  · intro K hK
    simp (disch:=first|omega|(simp only[lenT];omega)) only[evSt,↓eA,eB,evU,seval]
    refine loopA (ι:=Nat × List (List V) × V × Store) (fun i=>[(2,c2),(3,c3),(5,i.2.2.1),(9,.int .i64 (i.1 : Nat))]) (fun i=>i.2.2.2)
      (fun i=>i.1 ≤ t.rules.length ∧ LG S 111 2 i.2.1 i.2.2.1 i.2.2.2 ∧ i.2.1.length ≤ 10000 + 20000001 * i.1 ∧ (∀ r ∈ i.2.1,FI r) ∧ (i.2.1 = [] → ∀ r ∈ t.rules.take i.1,RulOk r)) (fun i=>t.rules.length - i.1) (0,rows,E.get 5,S1) ⟨Nat.zero_le _,hg,hl,hf,fun _ r hr=>by simp at hr⟩ ?_ rfl ?_
    · simp only[e2,e3,↓eA,eB,evU,seval]
      try rfl
    clear hg hl hf hP e2 e3
    rintro ⟨i,rows,v,S1⟩ ⟨hi,hg,hl,hf,hP⟩
    simp only at hi hg hl hf hP ⊢
    refine stageA (fun E' S'=>(i : Int) < t.rules.length ∧ E'.get 2 = c2 ∧ E'.get 3 = c3 ∧ E'.get 5 = v ∧ E'.get 9 = .int .i64 (i : Nat) ∧ S' = S1) ?_ ?_
    · intro K2 hK2
      by_cases hlt : (i : Int) < t.rules.length
      · simp (disch:=first|omega|(simp only[lenT];omega)) only[hc3,dT hlt,evSt,↓eA,eB,evU,seval]
        exact hK2 _ _ ⟨hlt,rfl,hc3.symm,rfl,rfl,rfl⟩
      · simp (disch:=first|omega|(simp only[lenT];omega)) only[hc3,dF hlt,evSt,↓eA,eB,evU,seval]
        exact hK _ _ ⟨rows,hg,rfl,hc3.symm,by omega,hf,by rw[List.take_of_length_le (by omega)] at hP;exact hP⟩
    rintro E S2 ⟨hlt,e2,e3,e5,ei,hS2⟩
    rw[hS2]
    clear hS2 S2
    obtain ⟨y,hc⟩ : ∃ y,t.rules[i]? = some y:=⟨_,List.getElem?_eq_getElem (by omega)⟩
    have hmem:=List.mem_of_getElem? hc
    have hi2 : (i : Int) + 1 = ((i + 1 : Nat) : Int):=by omega
    obtain ⟨at_,hadd,hat⟩ : ∃ at_ : Txt,binV .add (.str txRule) (.str (decX i)) = some (.str at_) ∧ at_.length ≤ 40:=⟨_,add_dec txRule i (by decide),dec_le txRule i (by decide)⟩
    simp only[txRule] at hadd
    refine stageA (fun E' S'=>GT S (10000 + 20000001 * (i + 1)) c2 c3 (∀ r ∈ t.rules.take (i + 1),RulOk r) E' S' ∧ E'.get 9 = .int .i64 (i : Nat)) ?_ ?_
    · intro K2 hK2
      refine stageA (fun E' S'=>E'.get 10 = .str at_ ∧ E'.get 11 = .bool false ∧ E'.get 2 = c2 ∧ E'.get 3 = c3 ∧ E'.get 5 = v ∧ E'.get 9 = .int .i64 (i : Nat) ∧ S' = S1) ?_ ?_
      · intro K3 hK3
        simp (disch:=first|omega|(simp only[lenT];omega)) only[ei,evSt,↓eA,eB,evU,seval]
        refine (decX_A i (by omega) _).then ?_
        simp (disch:=first|omega|(simp only[lenT];omega)) only[hadd,evSt,↓eA,eB,evU,seval]
        exact hK3 _ _ ⟨rfl,rfl,e2,e3,e5,ei,rfl⟩
      clear e2 e3 e5 ei
      rintro E S2 ⟨ea,et,e2,e3,e5,ei,hS2⟩
      rw[hS2]
      clear hS2 S2
      refine stageA (fun E' S'=>(∃ tw,E'.get 11 = .bool tw) ∧ E'.get 10 = .str at_ ∧ E'.get 2 = c2 ∧ E'.get 3 = c3 ∧ E'.get 5 = v ∧ E'.get 9 = .int .i64 (i : Nat) ∧ S' = S1) ?_ ?_
      · intro K3 hK3
        simp (disch:=first|omega|(simp only[lenT];omega)) only[evSt,↓eA,eB,evU,seval]
        refine loopA (ι:=Nat × Bool) (fun k=>[(2,c2),(3,c3),(5,v),(9,.int .i64 (i : Nat)),(10,.str at_),(11,.bool k.2),(12,.int .i64 (k.1 : Nat))]) (fun _=>S1)
          (fun k=>k.1 ≤ i) (fun k=>i - k.1) (0,false) (Nat.zero_le _) ?_ rfl ?_
        · simp only[e2,e3,e5,ei,ea,et,↓eA,eB,evU,seval]
          try rfl
        clear ea et e2 e3 e5 ei
        rintro ⟨k,tw⟩ hk
        simp only at hk ⊢
        by_cases hki : k < i
        · have hltk : (k : Int) < i:=by omega
          have hk2 : (k : Int) + 1 = ((k + 1 : Nat) : Int):=by omega
          obtain ⟨z,hz⟩ : ∃ z,t.rules[k]? = some z:=⟨_,List.getElem?_eq_getElem (by omega)⟩
          have ql : ∀ b,decide (z.n = y.n) = b → ∃ b,decide (z.n = y.n) = b:=fun b h=>⟨b,h⟩
          cases tw<;>simp (disch:=first|omega|(simp only[lenT];omega)) only[dT hltk,hc,hz,hc3,rulR,wrap_i64,hk2,evSt,↓eA,eB,evU,seval]
          all_goals first | exact ⟨(k + 1,_),by simp only;omega,by simp only;omega,⟨rfl,rfl⟩,rfl⟩ | exact ⟨(k + 1,_),by simp only;omega,by simp only;omega,⟨rfl,rfl,rfl,rfl,rfl,rfl,rfl⟩,rfl⟩ | exact ⟨(k + 1,_),by simp only;omega,by simp only;omega,rfl,rfl⟩ | exact ⟨(k + 1,_),by simp only;omega,by simp only;omega,⟨hc3.symm,rfl⟩,rfl⟩
        · have hltk : ¬ (k : Int) < i:=by omega
          simp (disch:=first|omega|(simp only[lenT];omega)) only[dF hltk,evSt,↓eA,eB,evU,seval]
          exact hK3 _ _ ⟨⟨_,rfl⟩,rfl,rfl,rfl,rfl,rfl,rfl⟩
      clear ea et e2 e3 e5 ei
      rintro E S2 ⟨⟨tw,et⟩,ea,e2,e3,e5,ei,hS2⟩
      rw[hS2]
      clear hS2 S2
      refine stageA (fun E' S'=>GT S (10000 + 20000001 * i + 1) c2 c3 (∀ r ∈ t.rules.take i,RulOk r) E' S' ∧ E'.get 10 = .str at_ ∧ E'.get 9 = .int .i64 (i : Nat)) ?_ ?_
      · intro K3 hK3
        cases tw<;>simp (disch:=first|omega|(simp only[lenT];omega)) only[et,ea,e5,evSt,↓eA,eB,evU,seval]
        · exact hK3 _ _ ⟨⟨rows,e5 ▸ hg,e2,e3,by omega,hf,hP⟩,ea,ei⟩
        · refine hg.app (by simp;omega) fun v' S2 h2=>?_
          simp (disch:=first|omega|(simp only[lenT];omega)) only[evSt,↓eA,eB,evU,seval]
          exact hK3 _ _ ⟨⟨_,h2,e2,e3,by simp only[List.length_append,List.length_singleton];omega,all_snoc hf (FI.one _ _),ne_snoc⟩,ea,ei⟩
      clear hg hl hf hP ea et e2 e3 e5 ei
      rintro E S1 ⟨⟨rows,hg,e2,e3,hl,hf,hP⟩,ea,ei⟩
      have ck:=check21_A y (ht.per y hmem).1 (ht.per y hmem).2 S1
      have hok : ∀ r ∈ t.rules.take (i + 1),r ∈ t.rules.take i ∨ r = y:=fun r hr=>by
        rw[take_at hc] at hr
        rcases List.mem_append.1 hr with h | h
        · exact .inl h
        · exact .inr (List.mem_singleton.1 h)
      generalize hyok : RulOk y = ok at ck
      have hokn : (∀ r ∈ t.rules.take i,RulOk r) → ok → ∀ r ∈ t.rules.take (i + 1),RulOk r:=fun h1 h2 r hr=>by
        rcases hok r hr with h | rfl
        · exact h1 r h
        · rw[hyok];exact h2
      obtain ⟨n0,⟨c1,c2',c3',c4,c5,c6⟩,cb,mn,mx,ch,rf,per⟩:=y
      simp only[rulR,Cnd.row,List.cons_append,List.nil_append] at ck hc
      simp (disch:=first|omega|(simp only[lenT];omega)) only[e2,e3,ea,ei,hc3,hc,rulR,Cnd.row,evSt,↓eA,eB,evU,seval]
      refine ck.mono ?_
      rintro _ S2 ⟨fs,rfl,⟨hfl,hfr,hfo⟩,hS2⟩
      rw[hS2]
      clear hS2 S2
      simp (disch:=first|omega|(simp only[lenT];omega)) only[evSt,↓eA,eB,evU,seval]
      refine (inner_A hg (by omega) hf at_ (by omega) fs hfr (by omega)).mono ?_
      rintro v' S2 ⟨rows',hg',hl',hf'⟩
      simp (disch:=first|omega|(simp only[lenT];omega)) only[evSt,↓eA,eB,evU,seval]
      exact hK2 _ _ ⟨⟨rows',hg',e2,e3,by omega,hf',fun h=>by
        subst h
        simp only[List.length_nil] at hl'
        have hr0 : rows = []:=List.length_eq_zero_iff.1 (by omega)
        have hf0 : fs = []:=List.length_eq_zero_iff.1 (by omega)
        exact hokn (hP hr0) (hfo hf0)⟩,ei⟩
    clear hg hl hf hP e2 e3 e5 ei
    rintro E S1 ⟨⟨rows,hg,e2,e3,hl,hf,hP⟩,ei⟩
    simp (disch:=first|omega|(simp only[lenT];omega)) only[ei,wrap_i64,hi2,evSt,↓eA,eB,evU,seval]
    exact ⟨(i + 1,rows,E.get 5,S1),⟨by simp only;omega,hg,by simp only;omega,hf,hP⟩,by simp only;omega,⟨e2,e3,rfl,rfl⟩,rfl⟩
  clear hg hl hf hP e2 e3
  rintro E S1 ⟨rows,hg,e2,e3,hl,hf,hP⟩
  refine stageA (GT S 600000000 c2 c3 (∀ r ∈ t.rules,RulOk r)) ?_ ?_
  · intro K hK
    simp (disch:=first|omega|(simp only[lenT];omega)) only[evSt,↓eA,eB,evU,seval]
    refine loopA (ι:=Nat × List (List V) × V × Store) (fun i=>[(2,c2),(3,c3),(5,i.2.2.1),(13,.int .i64 (i.1 : Nat))]) (fun i=>i.2.2.2)
      (fun i=>i.1 ≤ t.routs.length ∧ LG S 111 2 i.2.1 i.2.2.1 i.2.2.2 ∧ i.2.1.length ≤ 300000000 + 20000001 * i.1 ∧ (∀ r ∈ i.2.1,FI r) ∧ (i.2.1 = [] → ∀ r ∈ t.rules,RulOk r)) (fun i=>t.routs.length - i.1) (0,rows,E.get 5,S1) ⟨Nat.zero_le _,hg,hl,hf,hP⟩ ?_ rfl ?_
    · simp only[e2,e3,↓eA,eB,evU,seval]
      try rfl
    clear hg hl hf hP e2 e3
    rintro ⟨i,rows,v,S1⟩ ⟨hi,hg,hl,hf,hP⟩
    simp only at hi hg hl hf hP ⊢
    refine stageA (fun E' S'=>(i : Int) < t.routs.length ∧ E'.get 2 = c2 ∧ E'.get 3 = c3 ∧ E'.get 5 = v ∧ E'.get 13 = .int .i64 (i : Nat) ∧ S' = S1) ?_ ?_
    · intro K2 hK2
      by_cases hlt : (i : Int) < t.routs.length
      · simp (disch:=first|omega|(simp only[lenT];omega)) only[hc3,dT hlt,evSt,↓eA,eB,evU,seval]
        exact hK2 _ _ ⟨hlt,rfl,hc3.symm,rfl,rfl,rfl⟩
      · simp (disch:=first|omega|(simp only[lenT];omega)) only[hc3,dF hlt,evSt,↓eA,eB,evU,seval]
        exact hK _ _ ⟨rows,hg,rfl,hc3.symm,by omega,hf,hP⟩
    rintro E S2 ⟨hlt,e2,e3,e5,ei,hS2⟩
    rw[hS2]
    clear hS2 S2
    obtain ⟨y,hc⟩ : ∃ y,t.routs[i]? = some y:=⟨_,List.getElem?_eq_getElem (by omega)⟩
    have hmem:=List.mem_of_getElem? hc
    have hi2 : (i : Int) + 1 = ((i + 1 : Nat) : Int):=by omega
    obtain ⟨at_,hadd,hat⟩ : ∃ at_ : Txt,binV .add (.str txRout) (.str (decX i)) = some (.str at_) ∧ at_.length ≤ 40:=⟨_,add_dec txRout i (by decide),dec_le txRout i (by decide)⟩
    simp only[txRout] at hadd
    refine stageA (fun E' S'=>GT S (300000000 + 20000001 * (i + 1)) c2 c3 (∀ r ∈ t.rules,RulOk r) E' S' ∧ E'.get 13 = .int .i64 (i : Nat)) ?_ ?_
    · intro K2 hK2
      refine stageA (fun E' S'=>E'.get 14 = .str at_ ∧ E'.get 15 = .bool false ∧ E'.get 2 = c2 ∧ E'.get 3 = c3 ∧ E'.get 5 = v ∧ E'.get 13 = .int .i64 (i : Nat) ∧ S' = S1) ?_ ?_
      · intro K3 hK3
        simp (disch:=first|omega|(simp only[lenT];omega)) only[ei,evSt,↓eA,eB,evU,seval]
        refine (decX_A i (by omega) _).then ?_
        simp (disch:=first|omega|(simp only[lenT];omega)) only[hadd,evSt,↓eA,eB,evU,seval]
        exact hK3 _ _ ⟨rfl,rfl,e2,e3,e5,ei,rfl⟩
      clear e2 e3 e5 ei
      rintro E S2 ⟨ea,et,e2,e3,e5,ei,hS2⟩
      rw[hS2]
      clear hS2 S2
      refine stageA (fun E' S'=>(∃ tw,E'.get 15 = .bool tw) ∧ E'.get 14 = .str at_ ∧ E'.get 2 = c2 ∧ E'.get 3 = c3 ∧ E'.get 5 = v ∧ E'.get 13 = .int .i64 (i : Nat) ∧ S' = S1) ?_ ?_
      · intro K3 hK3
        simp (disch:=first|omega|(simp only[lenT];omega)) only[evSt,↓eA,eB,evU,seval]
        refine loopA (ι:=Nat × Bool) (fun k=>[(2,c2),(3,c3),(5,v),(13,.int .i64 (i : Nat)),(14,.str at_),(15,.bool k.2),(16,.int .i64 (k.1 : Nat))]) (fun _=>S1)
          (fun k=>k.1 ≤ i) (fun k=>i - k.1) (0,false) (Nat.zero_le _) ?_ rfl ?_
        · simp only[e2,e3,e5,ei,ea,et,↓eA,eB,evU,seval]
          try rfl
        clear ea et e2 e3 e5 ei
        rintro ⟨k,tw⟩ hk
        simp only at hk ⊢
        by_cases hki : k < i
        · have hltk : (k : Int) < i:=by omega
          have hk2 : (k : Int) + 1 = ((k + 1 : Nat) : Int):=by omega
          obtain ⟨z,hz⟩ : ∃ z,t.routs[k]? = some z:=⟨_,List.getElem?_eq_getElem (by omega)⟩
          have ql : ∀ b,decide (z.n = y.n) = b → ∃ b,decide (z.n = y.n) = b:=fun b h=>⟨b,h⟩
          cases tw<;>simp (disch:=first|omega|(simp only[lenT];omega)) only[dT hltk,hc,hz,hc3,rouR,wrap_i64,hk2,evSt,↓eA,eB,evU,seval]
          all_goals first | exact ⟨(k + 1,_),by simp only;omega,by simp only;omega,⟨rfl,rfl⟩,rfl⟩ | exact ⟨(k + 1,_),by simp only;omega,by simp only;omega,⟨rfl,rfl,rfl,rfl,rfl,rfl,rfl⟩,rfl⟩ | exact ⟨(k + 1,_),by simp only;omega,by simp only;omega,rfl,rfl⟩ | exact ⟨(k + 1,_),by simp only;omega,by simp only;omega,⟨hc3.symm,rfl⟩,rfl⟩
        · have hltk : ¬ (k : Int) < i:=by omega
          simp (disch:=first|omega|(simp only[lenT];omega)) only[dF hltk,evSt,↓eA,eB,evU,seval]
          exact hK3 _ _ ⟨⟨_,rfl⟩,rfl,rfl,rfl,rfl,rfl,rfl⟩
      clear ea et e2 e3 e5 ei
      rintro E S2 ⟨⟨tw,et⟩,ea,e2,e3,e5,ei,hS2⟩
      rw[hS2]
      clear hS2 S2
      refine stageA (fun E' S'=>GT S (300000000 + 20000001 * i + 1) c2 c3 (∀ r ∈ t.rules,RulOk r) E' S' ∧ E'.get 14 = .str at_ ∧ E'.get 13 = .int .i64 (i : Nat)) ?_ ?_
      · intro K3 hK3
        cases tw<;>simp (disch:=first|omega|(simp only[lenT];omega)) only[et,ea,e5,evSt,↓eA,eB,evU,seval]
        · exact hK3 _ _ ⟨⟨rows,e5 ▸ hg,e2,e3,by omega,hf,hP⟩,ea,ei⟩
        · refine hg.app (by simp;omega) fun v' S2 h2=>?_
          simp (disch:=first|omega|(simp only[lenT];omega)) only[evSt,↓eA,eB,evU,seval]
          exact hK3 _ _ ⟨⟨_,h2,e2,e3,by simp only[List.length_append,List.length_singleton];omega,all_snoc hf (FI.one _ _),ne_snoc⟩,ea,ei⟩
      clear hg hl hf hP ea et e2 e3 e5 ei
      rintro E S1 ⟨⟨rows,hg,e2,e3,hl,hf,hP⟩,ea,ei⟩
      have ck:=check22_A y (ht.links y hmem) S1
      obtain ⟨n0,lks,mi⟩:=y
      simp only[rouR,List.cons_append,List.nil_append] at ck hc
      simp (disch:=first|omega|(simp only[lenT];omega)) only[e2,e3,ea,ei,hc3,hc,rouR,evSt,↓eA,eB,evU,seval]
      refine ck.mono ?_
      rintro _ S2 ⟨fs,rfl,⟨hfl,hfr⟩,hS2⟩
      rw[hS2]
      clear hS2 S2
      simp (disch:=first|omega|(simp only[lenT];omega)) only[evSt,↓eA,eB,evU,seval]
      refine (inner_A hg (by omega) hf at_ (by omega) fs hfr (by omega)).mono ?_
      rintro v' S2 ⟨rows',hg',hl',hf'⟩
      simp (disch:=first|omega|(simp only[lenT];omega)) only[evSt,↓eA,eB,evU,seval]
      exact hK2 _ _ ⟨⟨rows',hg',e2,e3,by omega,hf',fun h=>by
        subst h
        simp only[List.length_nil] at hl'
        have hr0 : rows = []:=List.length_eq_zero_iff.1 (by omega)
        have hf0 : fs = []:=List.length_eq_zero_iff.1 (by omega)
        exact hP hr0⟩,ei⟩
    clear hg hl hf hP e2 e3 e5 ei
    rintro E S1 ⟨⟨rows,hg,e2,e3,hl,hf,hP⟩,ei⟩
    simp (disch:=first|omega|(simp only[lenT];omega)) only[ei,wrap_i64,hi2,evSt,↓eA,eB,evU,seval]
    exact ⟨(i + 1,rows,E.get 5,S1),⟨by simp only;omega,hg,by simp only;omega,hf,hP⟩,by simp only;omega,⟨e2,e3,rfl,rfl⟩,rfl⟩
  clear hg hl hf hP e2 e3
  rintro E S1 ⟨rows,hg,e2,e3,hl,hf,hP⟩
  simp (disch:=first|omega|(simp only[lenT];omega)) only[evSt,↓eA,eB,evU,seval]
  have hfin:=hg.fin hn hf
  exact ⟨_,S,hfin.1,hfin.2,Nat.le_refl _,⟨_,rfl,hP⟩,rfl⟩
end Go.Proofs.YtanmnoipikdplaaGreat
