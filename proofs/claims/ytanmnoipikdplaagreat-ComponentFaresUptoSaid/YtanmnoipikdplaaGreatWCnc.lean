/- Component: what the reference's look at conditions says. -/
import Derived.Test.YtanmnoipikdplaaGreatWCnb
namespace Go.Proofs.YtanmnoipikdplaaGreat
open Go Go.AL
set_option linter.unusedSectionVars false
variable [Go.AL.Mode]
set_option linter.unusedSimpArgs false
set_option linter.unusedVariables false
def lstB (k : Int) : Bool:=decide (k = 2) || decide (k = 3) || decide (k = 4)
def cdsB (k : Int) : Bool:=decide (k = 11) || decide (k = 13) || decide (k = 14)
def prdB (k : Int) : Bool:=decide (k = 5) || decide (k = 6)
def numB (k : Int) : Int:=if k = 8 ∨ k = 12 then 2 else if k = 7 ∨ k = 9 ∨ k = 10 then 1 else 0
theorem lst_A (k : Int) (S : Store) : CallA Tryz.prog 152 [.int .i64 k] S fun v S'=>v = .bool (lstB k) ∧ S' = S:=by
  refine CallA.keep Tryz.func152 c5071 (Nat.le_of_ble_eq_true rfl) fun σ hσ=>?_
  unfold lstB
  cases h1 : decide (k = 2)<;>cases h2 : decide (k = 3)<;>cases h3 : decide (k = 4)<;>simp (disch:=first|omega|(simp only[lenT];omega)) only[a5071,h1,h2,h3,Bool.or_self,Bool.or_true,Bool.or_false,Bool.true_or,Bool.false_or,evSt,↓eA,eB,evU,seval]
theorem cds_A (k : Int) (S : Store) : CallA Tryz.prog 149 [.int .i64 k] S fun v S'=>v = .bool (cdsB k) ∧ S' = S:=by
  refine CallA.keep Tryz.func149 c5074 (Nat.le_of_ble_eq_true rfl) fun σ hσ=>?_
  unfold cdsB
  cases h1 : decide (k = 11)<;>cases h2 : decide (k = 13)<;>cases h3 : decide (k = 14)<;>simp (disch:=first|omega|(simp only[lenT];omega)) only[a5074,h1,h2,h3,Bool.or_self,Bool.or_true,Bool.or_false,Bool.true_or,Bool.false_or,evSt,↓eA,eB,evU,seval]
theorem prd_A (k : Int) (S : Store) : CallA Tryz.prog 148 [.int .i64 k] S fun v S'=>v = .bool (prdB k) ∧ S' = S:=by
  refine CallA.keep Tryz.func148 c5073 (Nat.le_of_ble_eq_true rfl) fun σ hσ=>?_
  unfold prdB
  cases h1 : decide (k = 5)<;>cases h2 : decide (k = 6)<;>simp (disch:=first|omega|(simp only[lenT];omega)) only[a5073,h1,h2,Bool.or_self,Bool.or_true,Bool.or_false,Bool.true_or,Bool.false_or,evSt,↓eA,eB,evU,seval]
theorem num_A (k : Int) (S : Store) : CallA Tryz.prog 153 [.int .i64 k] S fun v S'=>v = .int .i64 (numB k) ∧ S' = S:=by
  refine CallA.keep Tryz.func153 c5072 (Nat.le_of_ble_eq_true rfl) fun σ hσ=>?_
  unfold numB
  by_cases h1 : k = 8
  · simp (disch:=first|omega|(simp only[lenT];omega)) only[a5072,dT h1,h1,true_or,if_true,evSt,↓eA,eB,evU,seval]
  by_cases h2 : k = 12
  · simp (disch:=first|omega|(simp only[lenT];omega)) only[a5072,dF h1,dT h2,h2,or_true,if_true,evSt,↓eA,eB,evU,seval]
  by_cases h3 : k = 7
  · simp (disch:=first|omega|(simp only[lenT];omega)) only[a5072,dF h1,dF h2,dT h3,h1,h2,h3,or_self,true_or,if_true,if_false,evSt,↓eA,eB,evU,seval]
  by_cases h4 : k = 9
  · simp (disch:=first|omega|(simp only[lenT];omega)) only[a5072,dF h1,dF h2,dF h3,dT h4,h1,h2,h3,h4,or_self,true_or,or_true,if_true,if_false,evSt,↓eA,eB,evU,seval]
  by_cases h5 : k = 10
  · simp (disch:=first|omega|(simp only[lenT];omega)) only[a5072,dF h1,dF h2,dF h3,dF h4,dT h5,h1,h2,h3,h4,h5,or_self,true_or,or_true,if_true,if_false,evSt,↓eA,eB,evU,seval]
  simp (disch:=first|omega|(simp only[lenT];omega)) only[a5072,dF h1,dF h2,dF h3,dF h4,dF h5,h1,h2,h3,h4,h5,or_self,if_false,evSt,↓eA,eB,evU,seval]
set_option maxHeartbeats 4000000 in
set_option maxRecDepth 10000 in
theorem extra_A (k : Int) (l : List Cnd) (a b : Int) (p : Pd) (tx : List Txt) (S : Store) : CallA Tryz.prog 146 [.agg (Cnd.mk k l a b p tx).row] S fun v S'=>∃ z,v = .bool z ∧ S' = S:=by
  refine CallA.withNeat Tryz.func146 c5068 fun hn=>?_
  refine CallA.fin Tryz.func146 c5068 (Nat.le_of_ble_eq_true rfl) fun σ hσ=>?_
  simp (disch:=first|omega|(simp only[lenT];omega)) only[a5068,Cnd.row,evSt,↓eA,eB,evU,seval]
  refine (lst_A k S).then ?_
  generalize lstB k = z1
  have done_ : ∀ z : Bool,∃ r1 S1,Fgt S S1 ∧ Frz S S1 (.bool z) r1 ∧ S.length ≤ S1.length ∧ (∃ z,r1 = .bool z ∧ S1 = S):=fun z=>⟨_,S,hn.self,.imm rfl,Nat.le_refl _,_,rfl,rfl⟩
  have hp : (p.f = 0 ∧ p.t = 0 ∧ p.d = 0) ∨ (decide (p.f = 0) && (decide (p.t = 0) && decide (p.d = 0))) = false:=by
    by_cases h : p.f = 0 ∧ p.t = 0 ∧ p.d = 0
    · exact .inl h
    · refine .inr ?_
      rw[Bool.eq_false_iff]
      intro e
      simp only[Bool.and_eq_true,decide_eq_true_eq] at e
      exact h e
  have s1 : (z1 = true ∧ decide ((0 : Int) = 1) = false) ∨ (z1 = false ∧ decide ((0 : Int) < ((Cnd.rows l).length : Nat)) = true) ∨ (z1 = false ∧ decide ((0 : Int) < ((Cnd.rows l).length : Nat)) = false):=by cases z1<;>cases decide ((0 : Int) < ((Cnd.rows l).length : Nat))<;>simp
  rcases s1 with ⟨rfl,hl⟩ | ⟨rfl,hl⟩ | ⟨rfl,hl⟩<;>simp (disch:=first|omega|(simp only[lenT];omega)) only[hl,evSt,↓eA,eB,evU,seval]
  all_goals try exact done_ _
  all_goals
    refine (cds_A k S).then ?_
    generalize cdsB k = z2
    have s2 : (z2 = true ∧ decide ((0 : Int) = 1) = false) ∨ (z2 = false ∧ decide ((0 : Int) < (tx.length : Nat)) = true) ∨ (z2 = false ∧ decide ((0 : Int) < (tx.length : Nat)) = false):=by cases z2<;>cases decide ((0 : Int) < (tx.length : Nat))<;>simp
    rcases s2 with ⟨rfl,ht⟩ | ⟨rfl,ht⟩ | ⟨rfl,ht⟩<;>simp (disch:=first|omega|(simp only[lenT];omega)) only[ht,evSt,↓eA,eB,evU,seval]
  all_goals try exact done_ _
  all_goals
    refine (prd_A k S).then ?_
    generalize prdB k = z3
    have s3 : (z3 = true ∧ decide ((0 : Int) = 1) = false ∧ decide ((0 : Int) = 1) = false ∧ decide ((0 : Int) = 1) = false) ∨ (z3 = false ∧ (decide (p.f = 0) && (decide (p.t = 0) && decide (p.d = 0))) = false ∧ decide ((0 : Int) = 1) = false ∧ decide ((0 : Int) = 1) = false) ∨ (z3 = false ∧ decide (p.f = 0) = true ∧ decide (p.t = 0) = true ∧ decide (p.d = 0) = true):=by
      cases z3
      · rcases hp with ⟨e1,e2,e3⟩ | hp
        · exact .inr (.inr ⟨rfl,dT e1,dT e2,dT e3⟩)
        · exact .inr (.inl ⟨rfl,hp,rfl,rfl⟩)
      · exact .inl ⟨rfl,rfl,rfl,rfl⟩
    rcases s3 with ⟨rfl,e1,e2,e3⟩ | ⟨rfl,e1,e2,e3⟩ | ⟨rfl,e1,e2,e3⟩<;>simp (disch:=first|omega|(simp only[lenT];omega)) only[e1,e2,e3,Bool.not_false,evSt,↓eA,eB,evU,seval]
  all_goals try exact done_ _
  all_goals
    refine (num_A k S).then ?_
    generalize numB k = n
    have s4 : (decide (n < 1) = false ∧ decide ((0 : Int) = 1) = false) ∨ (decide (n < 1) = true ∧ decide (a = 0) = true) ∨ (decide (n < 1) = true ∧ decide (a = 0) = false):=by cases decide (n < 1)<;>cases decide (a = 0)<;>simp
    rcases s4 with ⟨f1,f2⟩ | ⟨f1,f2⟩ | ⟨f1,f2⟩<;>simp (disch:=first|omega|(simp only[lenT];omega)) only[f1,f2,evSt,↓eA,eB,evU,seval]
  all_goals try exact done_ _
  all_goals
    refine (num_A k S).then ?_
    generalize numB k = n2
    have s5 : (decide (n2 < 2) = false ∧ decide ((0 : Int) = 1) = false) ∨ (decide (n2 < 2) = true ∧ decide (b = 0) = true) ∨ (decide (n2 < 2) = true ∧ decide (b = 0) = false):=by cases decide (n2 < 2)<;>cases decide (b = 0)<;>simp
    rcases s5 with ⟨g1,g2⟩ | ⟨g1,g2⟩ | ⟨g1,g2⟩<;>simp (disch:=first|omega|(simp only[lenT];omega)) only[g1,g2,evSt,↓eA,eB,evU,seval]
  all_goals exact done_ _
set_option maxHeartbeats 4000000 in
set_option maxRecDepth 10000 in
theorem wrong_A (k : Int) (l : List Cnd) (a b : Int) (p : Pd) (tx : List Txt) (S : Store) : CallA Tryz.prog 147 [.agg (Cnd.mk k l a b p tx).row] S fun v S'=>∃ z,v = .bool z ∧ (z = false → k = 4 → l.length = 1) ∧ S' = S:=by
  refine CallA.withNeat Tryz.func147 c5069 fun hn=>?_
  refine CallA.fin Tryz.func147 c5069 (Nat.le_of_ble_eq_true rfl) fun σ hσ=>?_
  by_cases k2 : k = 2
  · simp (disch:=first|omega|(simp only[lenT];omega)) only[a5069,Cnd.row,dT k2,evSt,↓eA,eB,evU,seval]
    exact ⟨_,S,hn.self,.imm rfl,Nat.le_refl _,_,rfl,fun _ h=>by omega,rfl⟩
  by_cases k3 : k = 3
  · simp (disch:=first|omega|(simp only[lenT];omega)) only[a5069,Cnd.row,dF k2,dT k3,evSt,↓eA,eB,evU,seval]
    exact ⟨_,S,hn.self,.imm rfl,Nat.le_refl _,_,rfl,fun _ h=>by omega,rfl⟩
  by_cases k4 : k = 4
  · simp (disch:=first|omega|(simp only[lenT];omega)) only[a5069,Cnd.row,dF k2,dF k3,dT k4,evSt,↓eA,eB,evU,seval]
    refine ⟨_,S,hn.self,.imm rfl,Nat.le_refl _,_,rfl,fun h _=>?_,rfl⟩
    simp only[Bool.not_eq_false',decide_eq_true_eq] at h
    rw[Cnd.rows_eq,List.length_map] at h
    omega
  by_cases k7 : k = 7
  · cases q1 : decide (a < 0)<;>cases q2 : decide (36525 ≤ a)<;>simp (disch:=first|omega|(simp only[lenT];omega)) only[a5069,Cnd.row,dF k2,dF k3,dF k4,dT k7,q1,q2,evSt,↓eA,eB,evU,seval]
    all_goals exact ⟨_,S,hn.self,.imm rfl,Nat.le_refl _,_,rfl,fun _ h=>by omega,rfl⟩
  by_cases k8 : k = 8
  · cases q1 : decide (a < 0)<;>cases q2 : decide (1440 ≤ a)<;>cases q3 : decide (b < 0)<;>cases q4 : decide (1440 ≤ b)<;>simp (disch:=first|omega|(simp only[lenT];omega)) only[a5069,Cnd.row,dF k2,dF k3,dF k4,dF k7,dT k8,q1,q2,q3,q4,evSt,↓eA,eB,evU,seval]
    all_goals exact ⟨_,S,hn.self,.imm rfl,Nat.le_refl _,_,rfl,fun _ h=>by omega,rfl⟩
  by_cases k9 : k = 9
  · cases q1 : decide (a < 0)<;>cases q2 : decide (6 < a)<;>simp (disch:=first|omega|(simp only[lenT];omega)) only[a5069,Cnd.row,dF k2,dF k3,dF k4,dF k7,dF k8,dT k9,q1,q2,evSt,↓eA,eB,evU,seval]
    all_goals exact ⟨_,S,hn.self,.imm rfl,Nat.le_refl _,_,rfl,fun _ h=>by omega,rfl⟩
  by_cases k10 : k = 10
  · cases q1 : decide (a < 0)<;>cases q2 : decide (6 < a)<;>simp (disch:=first|omega|(simp only[lenT];omega)) only[a5069,Cnd.row,dF k2,dF k3,dF k4,dF k7,dF k8,dF k9,dT k10,q1,q2,evSt,↓eA,eB,evU,seval]
    all_goals exact ⟨_,S,hn.self,.imm rfl,Nat.le_refl _,_,rfl,fun _ h=>by omega,rfl⟩
  by_cases k12 : k = 12
  · cases q1 : decide (a < 1)<;>cases q2 : decide (b < a)<;>cases q3 : decide (9999 < b)<;>simp (disch:=first|omega|(simp only[lenT];omega)) only[a5069,Cnd.row,dF k2,dF k3,dF k4,dF k7,dF k8,dF k9,dF k10,dT k12,q1,q2,q3,evSt,↓eA,eB,evU,seval]
    all_goals exact ⟨_,S,hn.self,.imm rfl,Nat.le_refl _,_,rfl,fun _ h=>by omega,rfl⟩
  simp (disch:=first|omega|(simp only[lenT];omega)) only[a5069,Cnd.row,dF k2,dF k3,dF k4,dF k7,dF k8,dF k9,dF k10,dF k12,evSt,↓eA,eB,evU,seval]
  exact ⟨_,S,hn.self,.imm rfl,Nat.le_refl _,_,rfl,fun _ h=>by omega,rfl⟩
theorem code20_A (k : Int) (s : Txt) (S : Store) : CallA Tryz.prog 150 [.int .i64 k,.str s] S fun v S'=>∃ z,v = .bool z ∧ S' = S:=by
  refine CallA.withNeat Tryz.func150 c5070 fun hn=>?_
  refine CallA.fin Tryz.func150 c5070 (Nat.le_of_ble_eq_true rfl) fun σ hσ=>?_
  by_cases h1 : k = 11
  · simp (disch:=first|omega|(simp only[lenT];omega)) only[a5070,dT h1,evSt,↓eA,eB,evU,seval]
    refine (rcarrierT_A s S).then ?_
    simp (disch:=first|omega|(simp only[lenT];omega)) only[evSt,↓eA,eB,evU,seval]
    exact ⟨_,S,hn.self,.imm rfl,Nat.le_refl _,_,rfl,rfl⟩
  by_cases h2 : k = 13
  · simp (disch:=first|omega|(simp only[lenT];omega)) only[a5070,dF h1,dT h2,evSt,↓eA,eB,evU,seval]
    refine (rairport_A s S).then ?_
    simp (disch:=first|omega|(simp only[lenT];omega)) only[evSt,↓eA,eB,evU,seval]
    exact ⟨_,S,hn.self,.imm rfl,Nat.le_refl _,_,rfl,rfl⟩
  have cd:=rcodeT_A s 3 3 S
  simp (disch:=first|omega|(simp only[lenT];omega)) only[a5070,dF h1,dF h2,evSt,↓eA,eB,evU,seval]
  refine cd.then ?_
  simp (disch:=first|omega|(simp only[lenT];omega)) only[evSt,↓eA,eB,evU,seval]
  exact ⟨_,S,hn.self,.imm rfl,Nat.le_refl _,_,rfl,rfl⟩
set_option maxHeartbeats 4000000 in
set_option maxRecDepth 10000 in
theorem part_A (k : Int) (l : List Cnd) (a b : Int) (p : Pd) (tx : List Txt) (S : Store) : CallA Tryz.prog 140 [.agg (Cnd.mk k l a b p tx).row] S fun v S'=>∃ e : Int,v = .int .i64 e ∧ (e = 0 → 1 ≤ k ∧ k ≤ 14 ∧ (k = 4 → l.length = 1)) ∧ S' = S:=by
  refine agg_len (j:=7) (sz:=1) (rows:=tx.map txR) rfl (fun hm=>?_) ⟨Tryz.f140,Tryz.func140,by kernel_rfl,by kernel_rfl⟩
  rw[List.length_map] at hm
  have hm':=mx _ hm
  refine CallA.withNeat Tryz.func140 c5067 fun hn=>?_
  refine CallA.fin Tryz.func140 c5067 (Nat.le_of_ble_eq_true rfl) fun σ hσ=>?_
  have ex:=fun S=>extra_A k l a b p tx S
  have wr:=fun S=>wrong_A k l a b p tx S
  have ch:=fun S=>rcheck_A p S
  simp only[Cnd.row] at ex wr
  simp only[pdR] at ch
  by_cases h1 : k < 1
  · simp (disch:=first|omega|(simp only[lenT];omega)) only[a5067,Cnd.row,dT h1,evSt,↓eA,eB,evU,seval]
    exact ⟨_,S,hn.self,.imm rfl,Nat.le_refl _,_,rfl,fun h=>by omega,rfl⟩
  by_cases h2 : 14 < k
  · simp (disch:=first|omega|(simp only[lenT];omega)) only[a5067,Cnd.row,dF h1,dT h2,evSt,↓eA,eB,evU,seval]
    exact ⟨_,S,hn.self,.imm rfl,Nat.le_refl _,_,rfl,fun h=>by omega,rfl⟩
  simp (disch:=first|omega|(simp only[lenT];omega)) only[a5067,Cnd.row,dF h1,dF h2,evSt,↓eA,eB,evU,seval]
  refine (ex S).mono ?_
  rintro _ S2 ⟨z,rfl,hS2⟩
  rw[hS2]
  clear hS2 S2
  cases z
  case true =>
    simp (disch:=first|omega|(simp only[lenT];omega)) only[evSt,↓eA,eB,evU,seval]
    exact ⟨_,S,hn.self,.imm rfl,Nat.le_refl _,_,rfl,fun h=>by omega,rfl⟩
  simp (disch:=first|omega|(simp only[lenT];omega)) only[evSt,↓eA,eB,evU,seval]
  refine (wr _).mono ?_
  rintro _ S2 ⟨z,rfl,hw,hS2⟩
  rw[hS2]
  clear hS2 S2
  cases z
  case true =>
    simp (disch:=first|omega|(simp only[lenT];omega)) only[evSt,↓eA,eB,evU,seval]
    exact ⟨_,S,hn.self,.imm rfl,Nat.le_refl _,_,rfl,fun h=>by omega,rfl⟩
  have hg : 1 ≤ k ∧ k ≤ 14 ∧ (k = 4 → l.length = 1):=⟨by omega,by omega,hw rfl⟩
  simp (disch:=first|omega|(simp only[lenT];omega)) only[evSt,↓eA,eB,evU,seval]
  refine (prd_A k _).then ?_
  generalize prdB k = z3
  cases z3
  case true =>
    simp (disch:=first|omega|(simp only[lenT];omega)) only[evSt,↓eA,eB,evU,seval]
    refine (ch _).then ?_
    simp (disch:=first|omega|(simp only[lenT];omega)) only[evSt,↓eA,eB,evU,seval]
    exact ⟨_,S,hn.self,.imm rfl,Nat.le_refl _,_,rfl,fun h=>hg,rfl⟩
  simp (disch:=first|omega|(simp only[lenT];omega)) only[evSt,↓eA,eB,evU,seval]
  refine (cds_A k _).then ?_
  generalize cdsB k = z4
  cases z4<;>cases ht : decide ((tx.length : Int) = 0)<;>simp (disch:=first|omega|(simp only[lenT];omega)) only[ht,evSt,↓eA,eB,evU,seval]
  all_goals try exact ⟨_,S,hn.self,.imm rfl,Nat.le_refl _,_,rfl,fun h=>by omega,rfl⟩
  all_goals
    refine loopA (ι:=Nat) (fun i=>[(1,.cptr (Cnd.mk k l a b p tx).row),(3,.int .i64 (i : Nat))]) (fun _=>S) (fun i=>i ≤ tx.length) (fun i=>tx.length - i) 0 (Nat.zero_le _) ?_ rfl ?_
    · simp only[Cnd.row,↓eA,eB,evU,seval]
      try rfl
    intro i hi
    cases hc : tx[i]? with
    | none =>
      have hge : tx.length ≤ i:=List.getElem?_eq_none_iff.1 hc
      have hlt : ¬ ((i : Int) < tx.length):=by omega
      simp (disch:=first|omega|(simp only[lenT];omega)) only[dF hlt,Cnd.row,evSt,↓eA,eB,evU,seval]
      exact ⟨_,S,hn.self,.imm rfl,Nat.le_refl _,_,rfl,fun h=>hg,rfl⟩
    | some y =>
      have hlt':=(List.getElem?_eq_some_iff.1 hc).1
      have hlt : (i : Int) < tx.length:=by omega
      have hile : (i : Int) ≤ (tx.length : Nat):=by omega
      have hk1 : (i : Int) + 1 = ((i + 1 : Nat) : Int):=by omega
      have hh:=fun S=>has20_A (tx.take i) y S
      simp only[List.map_take] at hh
      simp (disch:=first|omega|(simp only[lenT];omega)) only[dT hlt,hc,Cnd.row,txR,evSt,↓eA,eB,evU,seval]
      refine (code20_A k y S).mono ?_
      rintro _ S2 ⟨z,rfl,hS2⟩
      rw[hS2]
      clear hS2 S2
      cases z
      case false =>
        simp (disch:=first|omega|(simp only[lenT];omega)) only[evSt,↓eA,eB,evU,seval]
        exact ⟨_,S,hn.self,.imm rfl,Nat.le_refl _,_,rfl,fun h=>by omega,rfl⟩
      simp (disch:=first|omega|(simp only[lenT];omega)) only[if_pos hile,hc,txR,evSt,↓eA,eB,evU,seval]
      refine (has20_A (tx.take i) y S).then ?_
      cases (tx.take i).contains y
      case true =>
        simp (disch:=first|omega|(simp only[lenT];omega)) only[evSt,↓eA,eB,evU,seval]
        exact ⟨_,S,hn.self,.imm rfl,Nat.le_refl _,_,rfl,fun h=>by omega,rfl⟩
      simp (disch:=first|omega|(simp only[lenT];omega)) only[wrap_i64,hk1,evSt,↓eA,eB,evU,seval]
      exact ⟨i + 1,by omega,by omega,by first | rfl | exact ⟨rfl,rfl⟩⟩
theorem size_A : ∀ (c : Cnd) (S : Store),CallA Tryz.prog 121 [.agg c.row] S fun v S'=>∃ n : Int,v = .int .i64 n ∧ S' = S:=by
  refine Cnd.ind fun k l a b p tx ih S=>?_
  refine agg_len (j:=1) (sz:=8) (rows:=Cnd.rows l) rfl (fun hm=>?_) ⟨Tryz.f121,Tryz.func121,by kernel_rfl,by kernel_rfl⟩
  rw[Cnd.rows_eq,List.length_map] at hm
  have hm':=mx _ hm
  refine CallA.withNeat Tryz.func121 c5064 fun hn=>?_
  refine CallA.fin Tryz.func121 c5064 (Nat.le_of_ble_eq_true rfl) fun σ hσ=>?_
  simp (disch:=first|omega|(simp only[lenT];omega)) only[a5064,Cnd.row,Cnd.rows_eq,evSt,↓eA,eB,evU,seval]
  refine loopA (ι:=Nat × Int) (fun i=>[(1,.cptr [.int .i64 k,.sl 8 (l.map Cnd.row),.int .i64 a,.int .i64 b,.int .i64 p.f,.int .i64 p.t,.int .i64 p.d,.sl 1 (tx.map txR)]),(3,.int .i64 i.2),(4,.int .i64 (i.1 : Nat))]) (fun _=>S) (fun i=>i.1 ≤ l.length) (fun i=>l.length - i.1) (0,1) (Nat.zero_le _) ?_ rfl ?_
  · simp only[↓eA,eB,evU,seval]
    try rfl
  rintro ⟨i,n⟩ hi
  simp only at hi ⊢
  cases hc : l[i]? with
  | none =>
    have hge : l.length ≤ i:=List.getElem?_eq_none_iff.1 hc
    have hlt : ¬ ((i : Int) < l.length):=by omega
    simp (disch:=first|omega|(simp only[lenT];omega)) only[dF hlt,evSt,↓eA,eB,evU,seval]
    exact ⟨_,S,hn.self,.imm rfl,Nat.le_refl _,_,rfl,rfl⟩
  | some y =>
    have hlt':=(List.getElem?_eq_some_iff.1 hc).1
    have hlt : (i : Int) < l.length:=by omega
    have hk1 : (i : Int) + 1 = ((i + 1 : Nat) : Int):=by omega
    have hy:=ih y (List.mem_of_getElem? hc)
    obtain ⟨c1,c2,c3,c4,c5,c6⟩:=y
    simp only[Cnd.row,Cnd.rows_eq] at hy
    simp (disch:=first|omega|(simp only[lenT];omega)) only[dT hlt,hc,Cnd.row,Cnd.rows_eq,evSt,↓eA,eB,evU,seval]
    refine (hy _).mono ?_
    rintro _ S2 ⟨m,rfl,hS2⟩
    rw[hS2]
    clear hS2 S2
    simp (disch:=first|omega|(simp only[lenT];omega)) only[wrap_i64,hk1,evSt,↓eA,eB,evU,seval]
    exact ⟨(i + 1,_),by simp only;omega,by simp only;omega,by first | rfl | exact ⟨rfl,rfl⟩ | exact ⟨rfl,rfl,rfl⟩⟩
theorem levels_A : ∀ (c : Cnd) (S : Store),CallA Tryz.prog 120 [.agg c.row] S fun v S'=>∃ n : Int,v = .int .i64 n ∧ S' = S:=by
  refine Cnd.ind fun k l a b p tx ih S=>?_
  refine agg_len (j:=1) (sz:=8) (rows:=Cnd.rows l) rfl (fun hm=>?_) ⟨Tryz.f120,Tryz.func120,by kernel_rfl,by kernel_rfl⟩
  rw[Cnd.rows_eq,List.length_map] at hm
  have hm':=mx _ hm
  refine CallA.withNeat Tryz.func120 c5065 fun hn=>?_
  refine CallA.fin Tryz.func120 c5065 (Nat.le_of_ble_eq_true rfl) fun σ hσ=>?_
  simp (disch:=first|omega|(simp only[lenT];omega)) only[a5065,Cnd.row,Cnd.rows_eq,evSt,↓eA,eB,evU,seval]
  refine loopA (ι:=Nat × Int) (fun i=>[(1,.cptr [.int .i64 k,.sl 8 (l.map Cnd.row),.int .i64 a,.int .i64 b,.int .i64 p.f,.int .i64 p.t,.int .i64 p.d,.sl 1 (tx.map txR)]),(3,.int .i64 i.2),(4,.int .i64 (i.1 : Nat))]) (fun _=>S) (fun i=>i.1 ≤ l.length) (fun i=>l.length - i.1) (0,0) (Nat.zero_le _) ?_ rfl ?_
  · simp only[↓eA,eB,evU,seval]
    try rfl
  rintro ⟨i,n⟩ hi
  simp only at hi ⊢
  cases hc : l[i]? with
  | none =>
    have hge : l.length ≤ i:=List.getElem?_eq_none_iff.1 hc
    have hlt : ¬ ((i : Int) < l.length):=by omega
    simp (disch:=first|omega|(simp only[lenT];omega)) only[dF hlt,evSt,↓eA,eB,evU,seval]
    exact ⟨_,S,hn.self,.imm rfl,Nat.le_refl _,_,rfl,rfl⟩
  | some y =>
    have hlt':=(List.getElem?_eq_some_iff.1 hc).1
    have hlt : (i : Int) < l.length:=by omega
    have hk1 : (i : Int) + 1 = ((i + 1 : Nat) : Int):=by omega
    have hy:=ih y (List.mem_of_getElem? hc)
    obtain ⟨c1,c2,c3,c4,c5,c6⟩:=y
    simp only[Cnd.row,Cnd.rows_eq] at hy
    simp (disch:=first|omega|(simp only[lenT];omega)) only[dT hlt,hc,Cnd.row,Cnd.rows_eq,evSt,↓eA,eB,evU,seval]
    refine (hy _).mono ?_
    rintro _ S2 ⟨m,rfl,hS2⟩
    rw[hS2]
    clear hS2 S2
    simp (disch:=first|omega|(simp only[lenT];omega)) only[wrap_i64,hk1,evSt,↓eA,eB,evU,seval]
    exact ⟨(i + 1,_),by simp only;omega,by simp only;omega,by first | rfl | exact ⟨rfl,rfl⟩ | exact ⟨rfl,rfl,rfl⟩⟩
theorem parts_A : ∀ (c : Cnd) (S : Store),CallA Tryz.prog 122 [.agg c.row] S fun v S'=>∃ e : Int,v = .int .i64 e ∧ (e = 0 → c.right) ∧ S' = S:=by
  refine Cnd.ind fun k l a b p tx ih S=>?_
  refine agg_len (j:=1) (sz:=8) (rows:=Cnd.rows l) rfl (fun hm=>?_) ⟨Tryz.f122,Tryz.func122,by kernel_rfl,by kernel_rfl⟩
  rw[Cnd.rows_eq,List.length_map] at hm
  have hm':=mx _ hm
  refine CallA.withNeat Tryz.func122 c5066 fun hn=>?_
  refine CallA.fin Tryz.func122 c5066 (Nat.le_of_ble_eq_true rfl) fun σ hσ=>?_
  have pt:=fun S=>part_A k l a b p tx S
  simp only[Cnd.row,Cnd.rows_eq] at pt
  simp (disch:=first|omega|(simp only[lenT];omega)) only[a5066,Cnd.row,Cnd.rows_eq,evSt,↓eA,eB,evU,seval]
  refine (pt _).mono ?_
  rintro _ S2 ⟨e,rfl,he,hS2⟩
  rw[hS2]
  clear hS2 S2
  by_cases h0 : e = 0
  case neg =>
    simp (disch:=first|omega|(simp only[lenT];omega)) only[dF h0,evSt,↓eA,eB,evU,seval]
    exact ⟨_,S,hn.self,.imm rfl,Nat.le_refl _,_,rfl,fun h=>absurd h h0,rfl⟩
  obtain ⟨g1,g2,g3⟩:=he h0
  simp (disch:=first|omega|(simp only[lenT];omega)) only[dT h0,evSt,↓eA,eB,evU,seval]
  refine loopA (ι:=Nat) (fun i=>[(1,.cptr [.int .i64 k,.sl 8 (l.map Cnd.row),.int .i64 a,.int .i64 b,.int .i64 p.f,.int .i64 p.t,.int .i64 p.d,.sl 1 (tx.map txR)]),(4,.int .i64 (i : Nat))]) (fun _=>S) (fun i=>i ≤ l.length ∧ ∀ c ∈ l.take i,c.right) (fun i=>l.length - i) 0 ⟨Nat.zero_le _,fun c hc=>by simp at hc⟩ ?_ rfl ?_
  · simp only[↓eA,eB,evU,seval]
    try rfl
  rintro i ⟨hi,hr⟩
  cases hc : l[i]? with
  | none =>
    have hge : l.length ≤ i:=List.getElem?_eq_none_iff.1 hc
    have hlt : ¬ ((i : Int) < l.length):=by omega
    rw[List.take_of_length_le hge] at hr
    simp (disch:=first|omega|(simp only[lenT];omega)) only[dF hlt,evSt,↓eA,eB,evU,seval]
    exact ⟨_,S,hn.self,.imm rfl,Nat.le_refl _,_,rfl,fun _=>⟨g1,g2,g3,(Cnd.rightL_all l).2 hr⟩,rfl⟩
  | some y =>
    have hlt':=(List.getElem?_eq_some_iff.1 hc).1
    have hlt : (i : Int) < l.length:=by omega
    have hk1 : (i : Int) + 1 = ((i + 1 : Nat) : Int):=by omega
    have hy:=ih y (List.mem_of_getElem? hc)
    have hst : ∀ c ∈ l.take (i + 1),c ∈ l.take i ∨ c = y:=fun c hcm=>by
      rw[take_at hc] at hcm
      rcases List.mem_append.1 hcm with h | h
      · exact .inl h
      · exact .inr (List.mem_singleton.1 h)
    generalize hyr : y.right = yr at hy
    obtain ⟨c1,c2,c3,c4,c5,c6⟩:=y
    simp only[Cnd.row,Cnd.rows_eq] at hy
    simp (disch:=first|omega|(simp only[lenT];omega)) only[dT hlt,hc,Cnd.row,Cnd.rows_eq,evSt,↓eA,eB,evU,seval]
    refine (hy _).mono ?_
    rintro _ S2 ⟨m,rfl,hm2,hS2⟩
    rw[hS2]
    clear hS2 S2
    by_cases m0 : m = 0
    · simp (disch:=first|omega|(simp only[lenT];omega)) only[dT m0,wrap_i64,hk1,evSt,↓eA,eB,evU,seval]
      refine ⟨i + 1,⟨by omega,fun c hcm=>?_⟩,by omega,by first | rfl | exact ⟨rfl,rfl⟩ | exact ⟨rfl,rfl,rfl⟩⟩
      rcases hst c hcm with h | rfl
      · exact hr c h
      · rw[hyr];exact hm2 m0
    · simp (disch:=first|omega|(simp only[lenT];omega)) only[dF m0,evSt,↓eA,eB,evU,seval]
      exact ⟨_,S,hn.self,.imm rfl,Nat.le_refl _,_,rfl,fun h=>absurd h m0,rfl⟩
theorem check20_A (c : Cnd) (S : Store) : CallA Tryz.prog 89 [.agg c.row] S fun v S'=>∃ e : Int,v = .int .i64 e ∧ (e = 0 → c.right) ∧ S' = S:=by
  refine CallA.withNeat Tryz.func89 c5063 fun hn=>?_
  refine CallA.fin Tryz.func89 c5063 (Nat.le_of_ble_eq_true rfl) fun σ hσ=>?_
  have h1:=levels_A c
  have h2:=size_A c
  have h3:=parts_A c
  generalize hyr : c.right = yr at h3 ⊢
  obtain ⟨k,l,a,b,p,tx⟩:=c
  simp only[Cnd.row] at h1 h2 h3
  simp (disch:=first|omega|(simp only[lenT];omega)) only[a5063,Cnd.row,evSt,↓eA,eB,evU,seval]
  refine (h1 _).mono ?_
  rintro _ S2 ⟨n,rfl,hS2⟩
  rw[hS2]
  clear hS2 S2
  by_cases n1 : 8 < n
  · simp (disch:=first|omega|(simp only[lenT];omega)) only[dT n1,evSt,↓eA,eB,evU,seval]
    exact ⟨_,S,hn.self,.imm rfl,Nat.le_refl _,_,rfl,fun h=>by omega,rfl⟩
  simp (disch:=first|omega|(simp only[lenT];omega)) only[dF n1,evSt,↓eA,eB,evU,seval]
  refine (h2 _).mono ?_
  rintro _ S2 ⟨m,rfl,hS2⟩
  rw[hS2]
  clear hS2 S2
  by_cases m1 : 128 < m
  · simp (disch:=first|omega|(simp only[lenT];omega)) only[dT m1,evSt,↓eA,eB,evU,seval]
    exact ⟨_,S,hn.self,.imm rfl,Nat.le_refl _,_,rfl,fun h=>by omega,rfl⟩
  simp (disch:=first|omega|(simp only[lenT];omega)) only[dF m1,evSt,↓eA,eB,evU,seval]
  refine (h3 _).mono ?_
  rintro _ S2 ⟨e,rfl,he,hS2⟩
  rw[hS2]
  clear hS2 S2
  simp (disch:=first|omega|(simp only[lenT];omega)) only[evSt,↓eA,eB,evU,seval]
  exact ⟨_,S,hn.self,.imm rfl,Nat.le_refl _,_,rfl,he,rfl⟩
end Go.Proofs.YtanmnoipikdplaaGreat
