/- Surcharges and levels. -/
import Derived.Test.YtanmnoipikdplaaGreatWMil1
namespace Go.Proofs.YtanmnoipikdplaaGreat.Ml
open Go Go.AL
set_option linter.unusedSectionVars false
variable [Go.AL.Mode]
set_option linter.unusedSimpArgs false
set_option linter.unusedVariables false
def stepP (p : Int) : Prop:=p = 0 ∨ p = 5 ∨ p = 10 ∨ p = 15 ∨ p = 20 ∨ p = 25
instance (p : Int) : Decidable (stepP p):=by unfold stepP;infer_instance
def applyF (a p : Int) : Int × Int:=if stepP p then percentF a ((100 + p) * 100) else (0,2)
theorem apply_A (a p : Int) (S : Store) : CallA Tryz.prog 37 [.int .i64 a,.int .i64 p] S fun r S'=>r = .tup [.int .i64 (applyF a p).1,.int .i64 (applyF a p).2] ∧ S' = S:=by
  refine CallA.keep Tryz.func37 c4008 (Nat.le_of_ble_eq_true rfl) fun σ hσ=>?_
  have h5 : (5 : Int) ≠ 0:=by omega
  by_cases hp : stepP p
  · have e : applyF a p = percentF a ((100 + p) * 100):=if_pos hp
    unfold stepP at hp
    have h1 : ¬ p < 0:=by omega
    have h2 : ¬ 25 < p:=by omega
    have h3 : p.tmod 5 = 0:=by rw[Int.tmod_eq_emod_of_nonneg (by omega)];omega
    have h4 : (100 + p) * 100 = ((((100 + p) * 100).toNat : Nat) : Int):=by omega
    have hn : ((100 + p) * 100).toNat ≤ 100000:=by omega
    rw[e]
    have pc:=percent_A a ((100 + p) * 100).toNat S hn
    rw[← h4] at pc
    simp (disch:=omega) only[a4008,bi_rem h5,h1,h2,h3,wrap_i64,decide_false,↓eA,eB,evU,seval]
    refine pc.then ?_
    simp only[↓eA,eB,evU,seval]
  · have e : applyF a p = (0,2):=if_neg hp
    rw[e]
    unfold stepP at hp
    have ht:=tdm (a:=p) (b:=5) (by omega)
    by_cases h1 : p < 0
    · simp (disch:=omega) only[a4008,bi_rem h5,h1,wrap_i64,decide_false,↓eA,eB,evU,seval]
    by_cases h2 : 25 < p
    · simp (disch:=omega) only[a4008,bi_rem h5,h1,h2,wrap_i64,decide_false,↓eA,eB,evU,seval]
    have h3 : ¬ p.tmod 5 = 0:=by rw[(ht.1 (by omega)).2];omega
    simp (disch:=omega) only[a4008,bi_rem h5,h1,h2,h3,wrap_i64,decide_false,↓eA,eB,evU,seval]
def stepQ (p : Int) : Prop:=p = 0 ∨ p = 5 ∨ p = 10 ∨ p = 15 ∨ p = 20 ∨ p = 25 ∨ p = 30
theorem refapply_A (a p : Int) (S : Store) : CallA Tryz.prog 42 [.int .i64 a,.int .i64 p] S fun r S'=>r = .tup [.int .i64 (applyF a p).1,.int .i64 (applyF a p).2] ∧ S' = S:=by
  refine CallA.keep Tryz.func42 c4009 (Nat.le_of_ble_eq_true rfl) fun σ hσ=>?_
  simp only[a4009,↓eA,eB,evU,seval]
  refine loopA (ι:=Int) (fun i=>[(0,.int .i64 a),(1,.int .i64 p),(6,.int .i64 i)]) (fun _=>S) (fun i=>stepQ i ∧ ∀ j,stepP j → j < i → ¬ p = j) (fun i=>(30 - i).toNat) 0 ⟨.inl rfl,fun j hj h=>by unfold stepP at hj;omega⟩ ?_ rfl ?_
  · simp only[↓eA,eB,evU,seval]
  · rintro i ⟨hi,hno⟩
    by_cases h25 : i ≤ 25
    · have hip : stepP i:=by unfold stepP;unfold stepQ at hi;omega
      have hib : 0 ≤ i:=by unfold stepP at hip;omega
      by_cases e : i = p
      · subst e
        have ef : applyF a i = percentF a ((100 + i) * 100):=if_pos hip
        have h4 : (100 + i) * 100 = ((((100 + i) * 100).toNat : Nat) : Int):=by omega
        have pc:=refpercent_A a ((100 + i) * 100).toNat S (by omega)
        rw[← h4] at pc
        rw[ef]
        simp (disch:=omega) only[h25,wrap_i64,eq_self,decide_false,↓eA,eB,evU,seval]
        refine pc.then ?_
        simp only[↓eA,eB,evU,seval]
      · simp (disch:=omega) only[h25,e,wrap_i64,eq_self,decide_false,↓eA,eB,evU,seval]
        refine ⟨i + 5,⟨by unfold stepQ;unfold stepP at hip;omega,fun j hj hlt hpj=>?_⟩,by omega,rfl⟩
        by_cases hlt2 : j < i
        · exact hno j hj hlt2 hpj
        · unfold stepP at hj hip
          omega
    · have h30 : i = 30:=by unfold stepQ at hi;omega
      have ef : applyF a p = (0,2):=if_neg fun hp=>hno p hp (by unfold stepP at hp;omega) rfl
      rw[ef]
      simp (disch:=omega) only[h25,wrap_i64,decide_false,↓eA,eB,evU,seval]
def levF (m n : Int) : Int × Int :=
  if m < 0 ∨ 1099511627776 < m ∨ n < 1 ∨ 1099511627776 < n then (0,2)
  else if m * 100 ≤ n * 100 then (0,0) else if m * 100 ≤ n * 105 then (5,0) else if m * 100 ≤ n * 110 then (10,0) else if m * 100 ≤ n * 115 then (15,0) else if m * 100 ≤ n * 120 then (20,0) else if m * 100 ≤ n * 125 then (25,0) else (0,22)
theorem level_A (m n : Int) (S : Store) : CallA Tryz.prog 68 [.int .i64 m,.int .i64 n] S fun r S'=>r = .tup [.int .i64 (levF m n).1,.int .i64 (levF m n).2] ∧ S' = S:=by
  refine CallA.keep Tryz.func68 c4006 (Nat.le_of_ble_eq_true rfl) fun σ hσ=>?_
  by_cases h : m < 0 ∨ 1099511627776 < m ∨ n < 1 ∨ 1099511627776 < n
  · have e : levF m n = (0,2):=if_pos h
    rw[e]
    by_cases h1 : m < 0
    · simp (disch:=omega) only[a4006,h1,decide_false,↓eA,eB,evU,seval]
    by_cases h2 : 1099511627776 < m
    · simp (disch:=omega) only[a4006,h1,h2,decide_false,↓eA,eB,evU,seval]
    by_cases h3 : n < 1
    · simp (disch:=omega) only[a4006,h1,h2,h3,decide_false,↓eA,eB,evU,seval]
    have h4 : 1099511627776 < n:=by omega
    simp (disch:=omega) only[a4006,h1,h2,h3,h4,decide_false,↓eA,eB,evU,seval]
  · have h1 : ¬ m < 0:=by omega
    have h2 : ¬ 1099511627776 < m:=by omega
    have h3 : ¬ n < 1:=by omega
    have h4 : ¬ 1099511627776 < n:=by omega
    have e : levF m n = if m * 100 ≤ n * 100 then (0,0) else if m * 100 ≤ n * 105 then (5,0) else if m * 100 ≤ n * 110 then (10,0) else if m * 100 ≤ n * 115 then (15,0) else if m * 100 ≤ n * 120 then (20,0) else if m * 100 ≤ n * 125 then (25,0) else (0,22):=if_neg h
    rw[e]
    simp (disch:=omega) only[a4006,h1,h2,h3,h4,decide_false,↓eA,eB,evU,seval]
    refine loopA (ι:=Int) (fun i=>[(0,.int .i64 m),(1,.int .i64 n),(6,.int .i64 i)]) (fun _=>S) (fun i=>stepQ i ∧ (0 < i → ¬ m * 100 ≤ n * 100) ∧ (5 < i → ¬ m * 100 ≤ n * 105) ∧ (10 < i → ¬ m * 100 ≤ n * 110) ∧ (15 < i → ¬ m * 100 ≤ n * 115) ∧ (20 < i → ¬ m * 100 ≤ n * 120) ∧ (25 < i → ¬ m * 100 ≤ n * 125)) (fun i=>(30 - i).toNat) 0
      ⟨.inl rfl,fun h=>by omega,fun h=>by omega,fun h=>by omega,fun h=>by omega,fun h=>by omega,fun h=>by omega⟩ ?_ rfl ?_
    · simp only[↓eA,eB,evU,seval]
    · rintro i ⟨hi,g0,g1,g2,g3,g4,g5⟩
      unfold stepQ at hi
      rcases hi with rfl | rfl | rfl | rfl | rfl | rfl | rfl
      · by_cases hc : m * 100 ≤ n * 100
        · rw[if_pos hc]
          simp (disch:=omega) only[hc,wrap_i64,decide_false,Int.reduceAdd,Int.reduceLE,↓eA,eB,evU,seval]
        · simp (disch:=omega) only[hc,wrap_i64,decide_false,Int.reduceAdd,Int.reduceLE,↓eA,eB,evU,seval]
          exact ⟨5,⟨by unfold stepQ;omega,by omega⟩,by decide,rfl⟩
      · by_cases hc : m * 100 ≤ n * 105
        · rw[if_neg (g0 (by omega)),if_pos hc]
          simp (disch:=omega) only[hc,wrap_i64,decide_false,Int.reduceAdd,Int.reduceLE,↓eA,eB,evU,seval]
        · simp (disch:=omega) only[hc,wrap_i64,decide_false,Int.reduceAdd,Int.reduceLE,↓eA,eB,evU,seval]
          exact ⟨10,⟨by unfold stepQ;omega,by omega⟩,by decide,rfl⟩
      · by_cases hc : m * 100 ≤ n * 110
        · rw[if_neg (g0 (by omega)),if_neg (g1 (by omega)),if_pos hc]
          simp (disch:=omega) only[hc,wrap_i64,decide_false,Int.reduceAdd,Int.reduceLE,↓eA,eB,evU,seval]
        · simp (disch:=omega) only[hc,wrap_i64,decide_false,Int.reduceAdd,Int.reduceLE,↓eA,eB,evU,seval]
          exact ⟨15,⟨by unfold stepQ;omega,by omega⟩,by decide,rfl⟩
      · by_cases hc : m * 100 ≤ n * 115
        · rw[if_neg (g0 (by omega)),if_neg (g1 (by omega)),if_neg (g2 (by omega)),if_pos hc]
          simp (disch:=omega) only[hc,wrap_i64,decide_false,Int.reduceAdd,Int.reduceLE,↓eA,eB,evU,seval]
        · simp (disch:=omega) only[hc,wrap_i64,decide_false,Int.reduceAdd,Int.reduceLE,↓eA,eB,evU,seval]
          exact ⟨20,⟨by unfold stepQ;omega,by omega⟩,by decide,rfl⟩
      · by_cases hc : m * 100 ≤ n * 120
        · rw[if_neg (g0 (by omega)),if_neg (g1 (by omega)),if_neg (g2 (by omega)),if_neg (g3 (by omega)),if_pos hc]
          simp (disch:=omega) only[hc,wrap_i64,decide_false,Int.reduceAdd,Int.reduceLE,↓eA,eB,evU,seval]
        · simp (disch:=omega) only[hc,wrap_i64,decide_false,Int.reduceAdd,Int.reduceLE,↓eA,eB,evU,seval]
          exact ⟨25,⟨by unfold stepQ;omega,by omega⟩,by decide,rfl⟩
      · by_cases hc : m * 100 ≤ n * 125
        · rw[if_neg (g0 (by omega)),if_neg (g1 (by omega)),if_neg (g2 (by omega)),if_neg (g3 (by omega)),if_neg (g4 (by omega)),if_pos hc]
          simp (disch:=omega) only[hc,wrap_i64,decide_false,Int.reduceAdd,Int.reduceLE,↓eA,eB,evU,seval]
        · simp (disch:=omega) only[hc,wrap_i64,decide_false,Int.reduceAdd,Int.reduceLE,↓eA,eB,evU,seval]
          exact ⟨30,⟨by unfold stepQ;omega,by omega⟩,by decide,rfl⟩
      · rw[if_neg (g0 (by omega)),if_neg (g1 (by omega)),if_neg (g2 (by omega)),if_neg (g3 (by omega)),if_neg (g4 (by omega)),if_neg (g5 (by omega))]
        simp (disch:=omega) only[wrap_i64,decide_false,Int.reduceAdd,Int.reduceLE,↓eA,eB,evU,seval]
theorem reflevel_A (m n : Int) (S : Store) : CallA Tryz.prog 71 [.int .i64 m,.int .i64 n] S fun r S'=>r = .tup [.int .i64 (levF m n).1,.int .i64 (levF m n).2] ∧ S' = S:=by
  refine CallA.keep Tryz.func71 c4007 (Nat.le_of_ble_eq_true rfl) fun σ hσ=>?_
  by_cases h : m < 0 ∨ 1099511627776 < m ∨ n < 1 ∨ 1099511627776 < n
  · have e : levF m n = (0,2):=if_pos h
    rw[e]
    by_cases h1 : m < 0
    · simp (disch:=omega) only[a4007,h1,decide_false,↓eA,eB,evU,seval]
    by_cases h2 : 1099511627776 < m
    · simp (disch:=omega) only[a4007,h1,h2,decide_false,↓eA,eB,evU,seval]
    by_cases h3 : n < 1
    · simp (disch:=omega) only[a4007,h1,h2,h3,decide_false,↓eA,eB,evU,seval]
    have h4 : 1099511627776 < n:=by omega
    simp (disch:=omega) only[a4007,h1,h2,h3,h4,decide_false,↓eA,eB,evU,seval]
  · have h1 : ¬ m < 0:=by omega
    have h2 : ¬ 1099511627776 < m:=by omega
    have h3 : ¬ n < 1:=by omega
    have h4 : ¬ 1099511627776 < n:=by omega
    have e : levF m n = if m * 100 ≤ n * 100 then (0,0) else if m * 100 ≤ n * 105 then (5,0) else if m * 100 ≤ n * 110 then (10,0) else if m * 100 ≤ n * 115 then (15,0) else if m * 100 ≤ n * 120 then (20,0) else if m * 100 ≤ n * 125 then (25,0) else (0,22):=if_neg h
    rw[e]
    simp (disch:=omega) only[a4007,h1,h2,h3,h4,decide_false,↓eA,eB,evU,seval]
    refine loopA (ι:=Int) (fun i=>[(0,.int .i64 m),(1,.int .i64 n),(6,.int .i64 i)]) (fun _=>S) (fun i=>stepQ i ∧ (0 < i → ¬ m * 100 ≤ n * 100) ∧ (5 < i → ¬ m * 100 ≤ n * 105) ∧ (10 < i → ¬ m * 100 ≤ n * 110) ∧ (15 < i → ¬ m * 100 ≤ n * 115) ∧ (20 < i → ¬ m * 100 ≤ n * 120) ∧ (25 < i → ¬ m * 100 ≤ n * 125)) (fun i=>(30 - i).toNat) 0
      ⟨.inl rfl,fun h=>by omega,fun h=>by omega,fun h=>by omega,fun h=>by omega,fun h=>by omega,fun h=>by omega⟩ ?_ rfl ?_
    · simp only[↓eA,eB,evU,seval]
    · rintro i ⟨hi,g0,g1,g2,g3,g4,g5⟩
      unfold stepQ at hi
      rcases hi with rfl | rfl | rfl | rfl | rfl | rfl | rfl
      · by_cases hc : m * 100 ≤ n * 100
        · rw[if_pos hc]
          simp (disch:=omega) only[hc,wrap_i64,decide_false,Int.reduceAdd,Int.reduceLE,↓eA,eB,evU,seval]
        · simp (disch:=omega) only[hc,wrap_i64,decide_false,Int.reduceAdd,Int.reduceLE,↓eA,eB,evU,seval]
          exact ⟨5,⟨by unfold stepQ;omega,by omega⟩,by decide,rfl⟩
      · by_cases hc : m * 100 ≤ n * 105
        · rw[if_neg (g0 (by omega)),if_pos hc]
          simp (disch:=omega) only[hc,wrap_i64,decide_false,Int.reduceAdd,Int.reduceLE,↓eA,eB,evU,seval]
        · simp (disch:=omega) only[hc,wrap_i64,decide_false,Int.reduceAdd,Int.reduceLE,↓eA,eB,evU,seval]
          exact ⟨10,⟨by unfold stepQ;omega,by omega⟩,by decide,rfl⟩
      · by_cases hc : m * 100 ≤ n * 110
        · rw[if_neg (g0 (by omega)),if_neg (g1 (by omega)),if_pos hc]
          simp (disch:=omega) only[hc,wrap_i64,decide_false,Int.reduceAdd,Int.reduceLE,↓eA,eB,evU,seval]
        · simp (disch:=omega) only[hc,wrap_i64,decide_false,Int.reduceAdd,Int.reduceLE,↓eA,eB,evU,seval]
          exact ⟨15,⟨by unfold stepQ;omega,by omega⟩,by decide,rfl⟩
      · by_cases hc : m * 100 ≤ n * 115
        · rw[if_neg (g0 (by omega)),if_neg (g1 (by omega)),if_neg (g2 (by omega)),if_pos hc]
          simp (disch:=omega) only[hc,wrap_i64,decide_false,Int.reduceAdd,Int.reduceLE,↓eA,eB,evU,seval]
        · simp (disch:=omega) only[hc,wrap_i64,decide_false,Int.reduceAdd,Int.reduceLE,↓eA,eB,evU,seval]
          exact ⟨20,⟨by unfold stepQ;omega,by omega⟩,by decide,rfl⟩
      · by_cases hc : m * 100 ≤ n * 120
        · rw[if_neg (g0 (by omega)),if_neg (g1 (by omega)),if_neg (g2 (by omega)),if_neg (g3 (by omega)),if_pos hc]
          simp (disch:=omega) only[hc,wrap_i64,decide_false,Int.reduceAdd,Int.reduceLE,↓eA,eB,evU,seval]
        · simp (disch:=omega) only[hc,wrap_i64,decide_false,Int.reduceAdd,Int.reduceLE,↓eA,eB,evU,seval]
          exact ⟨25,⟨by unfold stepQ;omega,by omega⟩,by decide,rfl⟩
      · by_cases hc : m * 100 ≤ n * 125
        · rw[if_neg (g0 (by omega)),if_neg (g1 (by omega)),if_neg (g2 (by omega)),if_neg (g3 (by omega)),if_neg (g4 (by omega)),if_pos hc]
          simp (disch:=omega) only[hc,wrap_i64,decide_false,Int.reduceAdd,Int.reduceLE,↓eA,eB,evU,seval]
        · simp (disch:=omega) only[hc,wrap_i64,decide_false,Int.reduceAdd,Int.reduceLE,↓eA,eB,evU,seval]
          exact ⟨30,⟨by unfold stepQ;omega,by omega⟩,by decide,rfl⟩
      · rw[if_neg (g0 (by omega)),if_neg (g1 (by omega)),if_neg (g2 (by omega)),if_neg (g3 (by omega)),if_neg (g4 (by omega)),if_neg (g5 (by omega))]
        simp (disch:=omega) only[wrap_i64,decide_false,Int.reduceAdd,Int.reduceLE,↓eA,eB,evU,seval]
end Go.Proofs.YtanmnoipikdplaaGreat.Ml
/- Airports and cities. -/
namespace Go.Proofs.YtanmnoipikdplaaGreat.Ml
open Go Go.AL
set_option linter.unusedSectionVars false
variable [Go.AL.Mode]
set_option linter.unusedSimpArgs false
set_option linter.unusedVariables false
def aSl (l : List Apt) : V:=.sl 5 (l.map aptR)
def dSl (l : List Dst) : V:=.sl 3 (l.map dstR)
def noApt : List V:=[.str [],.str [],.str [],.int .i64 0,.nilSl]
def findR (l : List Apt) (q : Apt → Bool) : V:=match l.find? q with
  | some a=>.tup [.agg (aptR a),.bool true]
  | none=>.tup [.agg noApt,.bool false]
theorem find_at {l : List Apt} {q : Apt → Bool} {k : Nat} {a : Apt} (h : l.find? q = (l.drop k).find? q) (ha : l[k]? = some a) (hq : q a = true) : findR l q = .tup [.agg (aptR a),.bool true]:=by
  have e : l.drop k = a :: l.drop (k + 1):=by
    obtain ⟨hlt,rfl⟩:=List.getElem?_eq_some_iff.1 ha
    exact List.drop_eq_getElem_cons hlt
  rw[findR,h,e,List.find?_cons_of_pos hq]
theorem find_next {l : List Apt} {q : Apt → Bool} {k : Nat} {a : Apt} (h : l.find? q = (l.drop k).find? q) (ha : l[k]? = some a) (hq : q a = false) : l.find? q = (l.drop (k + 1)).find? q:=by
  have e : l.drop k = a :: l.drop (k + 1):=by
    obtain ⟨hlt,rfl⟩:=List.getElem?_eq_some_iff.1 ha
    exact List.drop_eq_getElem_cons hlt
  rw[h,e,List.find?_cons_of_neg (by simp [hq])]
theorem find_end {l : List Apt} {q : Apt → Bool} {k : Nat} (h : l.find? q = (l.drop k).find? q) (ha : l[k]? = none) : findR l q = .tup [.agg noApt,.bool false]:=by
  rw[findR,h,List.drop_eq_nil_of_le (List.getElem?_eq_none_iff.1 ha)]
  rfl
theorem find_A (p : List Apt × List Dst) (c : Txt) (S : Store) (hl : p.1.length ≤ 1048576) : CallA Tryz.prog 27 [plV p,.str c] S fun r S'=>r = findR p.1 (fun a=>decide (a.code = c)) ∧ S' = S:=by
  refine CallA.withNeat Tryz.func27 c4036 fun hn=>?_
  refine CallA.fin Tryz.func27 c4036 (Nat.le_of_ble_eq_true rfl) fun σ hσ=>?_
  simp (disch:=first|omega|(simp only[lenT];omega)) only[a4036,plV,aSl,dSl,evSt,↓eA,eB,evU,seval]
  refine loopF (ι:=Nat) (fun k=>[(1,.str c),(4,.ptr S.length 0 0 0),(9,aSl p.1),(10,.int .i64 p.1.length),(11,.int .i64 k)]) (fun _=>S ++ [⟨0,some (.arr 65 5 [noApt])⟩]) (fun k=>k ≤ p.1.length ∧ p.1.find? (fun a=>decide (a.code = c)) = (p.1.drop k).find? (fun a=>decide (a.code = c))) (fun k=>p.1.length - k) (fun i hi=>by rw[hσ];simp) 0 ⟨Nat.zero_le _,rfl⟩ (.inl ⟨?_,rfl⟩) ?_
  · simp only[aSl,dSl,↓eA,eB,evU,seval]
  · rintro k ⟨hk,hinv⟩
    cases hc : p.1[k]? with
    | none =>
      have hlt : ¬ ((k : Int) < p.1.length):=by rw[List.getElem?_eq_none_iff] at hc;omega
      rw[find_end hinv hc]
      simp (disch:=first|omega|(simp only[lenT];omega)) only[aSl,dSl,noApt,hlt,decide_false,evSt,↓eA,eB,evU,seval]
      exact ⟨_,S,hn.fgt _,.imm rfl,Nat.le_refl _,rfl,rfl⟩
    | some a =>
      have hlt':=(List.getElem?_eq_some_iff.1 hc).1
      have hlt : (k : Int) < p.1.length:=by omega
      by_cases h : a.code = c
      · have he : decide (a.code = c) = true:=by simp [h]
        rw[find_at hinv hc he]
        simp (disch:=first|omega|(simp only[lenT];omega)) only[aSl,dSl,aptR,noApt,hc,hlt,he,evSt,↓eA,eB,evU,seval]
        exact ⟨_,S,hn.fgt _,.imm rfl,Nat.le_refl _,rfl,rfl⟩
      · simp (disch:=first|omega|(simp only[lenT];omega)) only[aSl,dSl,aptR,noApt,wrap_i64,hc,hlt,h,decide_false,evSt,↓eA,eB,evU,seval]
        refine ⟨k + 1,⟨by omega,find_next hinv hc (by simp [h])⟩,by omega,back_under ?_ (by simp only[aSl,dSl,↓eA,eB,evU,seval];rfl) (by simp [V.under,aSl])⟩
        exact hn.fgtL (L:=[_,_]) (L1:=[_]) ⟨rfl,⟨_,rfl,.imm (fun r hr=>by simp only[noApt,List.mem_singleton] at hr;subst hr;exact ⟨rfl,rfl⟩)⟩,trivial⟩
theorem town_A (p : List Apt × List Dst) (c : Txt) (S : Store) (hl : p.1.length ≤ 1048576) : CallA Tryz.prog 63 [plV p,.str c] S fun r S'=>r = findR p.1 (fun a=>decide (a.city = c)) ∧ S' = S:=by
  refine CallA.withNeat Tryz.func63 c4037 fun hn=>?_
  refine CallA.fin Tryz.func63 c4037 (Nat.le_of_ble_eq_true rfl) fun σ hσ=>?_
  simp (disch:=first|omega|(simp only[lenT];omega)) only[a4037,plV,aSl,dSl,evSt,↓eA,eB,evU,seval]
  refine loopF (ι:=Nat) (fun k=>[(1,.str c),(4,.ptr S.length 0 0 0),(9,aSl p.1),(10,.int .i64 p.1.length),(11,.int .i64 k)]) (fun _=>S ++ [⟨0,some (.arr 65 5 [noApt])⟩]) (fun k=>k ≤ p.1.length ∧ p.1.find? (fun a=>decide (a.city = c)) = (p.1.drop k).find? (fun a=>decide (a.city = c))) (fun k=>p.1.length - k) (fun i hi=>by rw[hσ];simp) 0 ⟨Nat.zero_le _,rfl⟩ (.inl ⟨?_,rfl⟩) ?_
  · simp only[aSl,dSl,↓eA,eB,evU,seval]
  · rintro k ⟨hk,hinv⟩
    cases hc : p.1[k]? with
    | none =>
      have hlt : ¬ ((k : Int) < p.1.length):=by rw[List.getElem?_eq_none_iff] at hc;omega
      rw[find_end hinv hc]
      simp (disch:=first|omega|(simp only[lenT];omega)) only[aSl,dSl,noApt,hlt,decide_false,evSt,↓eA,eB,evU,seval]
      exact ⟨_,S,hn.fgt _,.imm rfl,Nat.le_refl _,rfl,rfl⟩
    | some a =>
      have hlt':=(List.getElem?_eq_some_iff.1 hc).1
      have hlt : (k : Int) < p.1.length:=by omega
      by_cases h : a.city = c
      · have he : decide (a.city = c) = true:=by simp [h]
        rw[find_at hinv hc he]
        simp (disch:=first|omega|(simp only[lenT];omega)) only[aSl,dSl,aptR,noApt,hc,hlt,he,evSt,↓eA,eB,evU,seval]
        exact ⟨_,S,hn.fgt _,.imm rfl,Nat.le_refl _,rfl,rfl⟩
      · simp (disch:=first|omega|(simp only[lenT];omega)) only[aSl,dSl,aptR,noApt,wrap_i64,hc,hlt,h,decide_false,evSt,↓eA,eB,evU,seval]
        refine ⟨k + 1,⟨by omega,find_next hinv hc (by simp [h])⟩,by omega,back_under ?_ (by simp only[aSl,dSl,↓eA,eB,evU,seval];rfl) (by simp [V.under,aSl])⟩
        exact hn.fgtL (L:=[_,_]) (L1:=[_]) ⟨rfl,⟨_,rfl,.imm (fun r hr=>by simp only[noApt,List.mem_singleton] at hr;subst hr;exact ⟨rfl,rfl⟩)⟩,trivial⟩
theorem rfind_A (p : List Apt × List Dst) (c : Txt) (S : Store) (hl : p.1.length ≤ 1048576) : CallA Tryz.prog 31 [plV p,.str c] S fun r S'=>r = findR p.1 (fun a=>decide (a.code = c)) ∧ S' = S:=by
  refine CallA.withNeat Tryz.func31 c4038 fun hn=>?_
  refine CallA.fin Tryz.func31 c4038 (Nat.le_of_ble_eq_true rfl) fun σ hσ=>?_
  simp (disch:=first|omega|(simp only[lenT];omega)) only[a4038,plV,aSl,dSl,evSt,↓eA,eB,evU,seval]
  refine loopF (ι:=Nat) (fun k=>[(1,.str c),(2,.cptr [aSl p.1,dSl p.2]),(4,.ptr S.length 0 0 0),(6,.int .i64 k)]) (fun _=>S ++ [⟨0,some (.arr 65 5 [noApt])⟩]) (fun k=>k ≤ p.1.length ∧ p.1.find? (fun a=>decide (a.code = c)) = (p.1.drop k).find? (fun a=>decide (a.code = c))) (fun k=>p.1.length - k) (fun i hi=>by rw[hσ];simp) 0 ⟨Nat.zero_le _,rfl⟩ (.inl ⟨?_,rfl⟩) ?_
  · simp only[aSl,dSl,↓eA,eB,evU,seval]
  · rintro k ⟨hk,hinv⟩
    cases hc : p.1[k]? with
    | none =>
      have hlt : ¬ ((k : Int) < p.1.length):=by rw[List.getElem?_eq_none_iff] at hc;omega
      rw[find_end hinv hc]
      simp (disch:=first|omega|(simp only[lenT];omega)) only[aSl,dSl,noApt,hlt,decide_false,evSt,↓eA,eB,evU,seval]
      exact ⟨_,S,hn.fgt _,.imm rfl,Nat.le_refl _,rfl,rfl⟩
    | some a =>
      have hlt':=(List.getElem?_eq_some_iff.1 hc).1
      have hlt : (k : Int) < p.1.length:=by omega
      by_cases h : a.code = c
      · have he : decide (a.code = c) = true:=by simp [h]
        rw[find_at hinv hc he]
        simp (disch:=first|omega|(simp only[lenT];omega)) only[aSl,dSl,aptR,noApt,hc,hlt,he,evSt,↓eA,eB,evU,seval]
        exact ⟨_,S,hn.fgt _,.imm rfl,Nat.le_refl _,rfl,rfl⟩
      · simp (disch:=first|omega|(simp only[lenT];omega)) only[aSl,dSl,aptR,noApt,wrap_i64,hc,hlt,h,decide_false,evSt,↓eA,eB,evU,seval]
        exact ⟨k + 1,⟨by omega,find_next hinv hc (by simp [h])⟩,by omega,.inl ⟨by simp only[aSl,dSl,↓eA,eB,evU,seval];rfl,rfl⟩⟩
theorem rtown_A (p : List Apt × List Dst) (c : Txt) (S : Store) (hl : p.1.length ≤ 1048576) : CallA Tryz.prog 64 [plV p,.str c] S fun r S'=>r = findR p.1 (fun a=>decide (a.city = c)) ∧ S' = S:=by
  refine CallA.withNeat Tryz.func64 c4039 fun hn=>?_
  refine CallA.fin Tryz.func64 c4039 (Nat.le_of_ble_eq_true rfl) fun σ hσ=>?_
  simp (disch:=first|omega|(simp only[lenT];omega)) only[a4039,plV,aSl,dSl,evSt,↓eA,eB,evU,seval]
  refine loopF (ι:=Nat) (fun k=>[(1,.str c),(2,.cptr [aSl p.1,dSl p.2]),(4,.ptr S.length 0 0 0),(6,.int .i64 k)]) (fun _=>S ++ [⟨0,some (.arr 65 5 [noApt])⟩]) (fun k=>k ≤ p.1.length ∧ p.1.find? (fun a=>decide (a.city = c)) = (p.1.drop k).find? (fun a=>decide (a.city = c))) (fun k=>p.1.length - k) (fun i hi=>by rw[hσ];simp) 0 ⟨Nat.zero_le _,rfl⟩ (.inl ⟨?_,rfl⟩) ?_
  · simp only[aSl,dSl,↓eA,eB,evU,seval]
  · rintro k ⟨hk,hinv⟩
    cases hc : p.1[k]? with
    | none =>
      have hlt : ¬ ((k : Int) < p.1.length):=by rw[List.getElem?_eq_none_iff] at hc;omega
      rw[find_end hinv hc]
      simp (disch:=first|omega|(simp only[lenT];omega)) only[aSl,dSl,noApt,hlt,decide_false,evSt,↓eA,eB,evU,seval]
      exact ⟨_,S,hn.fgt _,.imm rfl,Nat.le_refl _,rfl,rfl⟩
    | some a =>
      have hlt':=(List.getElem?_eq_some_iff.1 hc).1
      have hlt : (k : Int) < p.1.length:=by omega
      by_cases h : a.city = c
      · have he : decide (a.city = c) = true:=by simp [h]
        rw[find_at hinv hc he]
        simp (disch:=first|omega|(simp only[lenT];omega)) only[aSl,dSl,aptR,noApt,hc,hlt,he,evSt,↓eA,eB,evU,seval]
        exact ⟨_,S,hn.fgt _,.imm rfl,Nat.le_refl _,rfl,rfl⟩
      · simp (disch:=first|omega|(simp only[lenT];omega)) only[aSl,dSl,aptR,noApt,wrap_i64,hc,hlt,h,decide_false,evSt,↓eA,eB,evU,seval]
        exact ⟨k + 1,⟨by omega,find_next hinv hc (by simp [h])⟩,by omega,.inl ⟨by simp only[aSl,dSl,↓eA,eB,evU,seval];rfl,rfl⟩⟩
def cityF (l : List Apt) (c : Txt) : Txt:=match l.find? fun a=>decide (a.code = c) with
  | some a=>a.city
  | none=>if (l.find? fun a=>decide (a.city = c)).isSome then c else []
theorem city_A (p : List Apt × List Dst) (c : Txt) (S : Store) (hl : p.1.length ≤ 1048576) : CallA Tryz.prog 25 [plV p,.str c] S fun r S'=>r = .str (cityF p.1 c) ∧ S' = S:=by
  refine CallA.withNeat Tryz.func25 c4027 fun hn=>?_
  refine CallA.fin Tryz.func25 c4027 (Nat.le_of_ble_eq_true rfl) fun σ hσ=>?_
  simp (disch:=first|omega|(simp only[lenT];omega)) only[a4027,plV,aSl,dSl,evSt,↓eA,eB,evU,seval]
  refine (find_A p c S hl).then ?_
  unfold findR cityF
  cases h1 : p.1.find? fun a=>decide (a.code = c) with
  | some a =>
    simp (disch:=first|omega|(simp only[lenT];omega)) only[aptR,evSt,↓eA,eB,evU,seval]
    exact ⟨_,S,hn.fgt _,.imm rfl,Nat.le_refl _,rfl,rfl⟩
  | none =>
    simp (disch:=first|omega|(simp only[lenT];omega)) only[noApt,evSt,↓eA,eB,evU,seval]
    refine (town_A p c _ hl).then ?_
    unfold findR
    cases h2 : p.1.find? fun a=>decide (a.city = c) with
    | some a =>
      simp (disch:=first|omega|(simp only[lenT];omega)) only[aptR,Option.isSome_some,if_true,evSt,↓eA,eB,evU,seval]
      exact ⟨_,S,hn.fgt _,.imm rfl,Nat.le_refl _,rfl,rfl⟩
    | none =>
      simp (disch:=first|omega|(simp only[lenT];omega)) only[noApt,Option.isSome_none,Bool.false_eq_true,if_false,evSt,↓eA,eB,evU,seval]
      exact ⟨_,S,hn.fgt _,.imm rfl,Nat.le_refl _,rfl,rfl⟩
theorem rcity_A (p : List Apt × List Dst) (c : Txt) (S : Store) (hl : p.1.length ≤ 1048576) : CallA Tryz.prog 26 [plV p,.str c] S fun r S'=>r = .str (cityF p.1 c) ∧ S' = S:=by
  refine CallA.withNeat Tryz.func26 c4030 fun hn=>?_
  refine CallA.fin Tryz.func26 c4030 (Nat.le_of_ble_eq_true rfl) fun σ hσ=>?_
  simp (disch:=first|omega|(simp only[lenT];omega)) only[a4030,plV,aSl,dSl,evSt,↓eA,eB,evU,seval]
  refine (rfind_A p c S hl).then ?_
  unfold findR cityF
  cases h1 : p.1.find? fun a=>decide (a.code = c) with
  | some a =>
    simp (disch:=first|omega|(simp only[lenT];omega)) only[aptR,evSt,↓eA,eB,evU,seval]
    exact ⟨_,S,hn.fgt _,.imm rfl,Nat.le_refl _,rfl,rfl⟩
  | none =>
    simp (disch:=first|omega|(simp only[lenT];omega)) only[noApt,evSt,↓eA,eB,evU,seval]
    refine (rtown_A p c _ hl).then ?_
    unfold findR
    cases h2 : p.1.find? fun a=>decide (a.city = c) with
    | some a =>
      simp (disch:=first|omega|(simp only[lenT];omega)) only[aptR,Option.isSome_some,if_true,evSt,↓eA,eB,evU,seval]
      exact ⟨_,S,hn.fgt _,.imm rfl,Nat.le_refl _,rfl,rfl⟩
    | none =>
      simp (disch:=first|omega|(simp only[lenT];omega)) only[noApt,Option.isSome_none,Bool.false_eq_true,if_false,evSt,↓eA,eB,evU,seval]
      exact ⟨_,S,hn.fgt _,.imm rfl,Nat.le_refl _,rfl,rfl⟩
end Go.Proofs.YtanmnoipikdplaaGreat.Ml
/- The reference: what is reached. -/
namespace Go.Proofs.YtanmnoipikdplaaGreat.Ml
open Go Go.AL
set_option linter.unusedSectionVars false
variable [Go.AL.Mode]
set_option linter.unusedSimpArgs false
set_option linter.unusedVariables false
theorem usable_A (d : Dst) (S : Store) : CallA Tryz.prog 124 [.agg (dstR d)] S fun r S'=>r = .bool (usableF d) ∧ S' = S:=by
  refine CallA.keep Tryz.func124 c4029 (Nat.le_of_ble_eq_true rfl) fun σ hσ=>?_
  by_cases h : 1 ≤ d.mi
  · have e : usableF d = decide (d.mi ≤ 20000):=by simp [usableF,h]
    rw[e]
    simp (disch:=first|omega|(simp only[lenT];omega)) only[a4029,dstR,h,evSt,↓eA,eB,evU,seval]
  · have e : usableF d = false:=by simp [usableF,h]
    rw[e]
    simp (disch:=first|omega|(simp only[lenT];omega)) only[a4029,dstR,h,decide_false,evSt,↓eA,eB,evU,seval]
theorem rusable_A (d : Dst) (S : Store) : CallA Tryz.prog 84 [.agg (dstR d)] S fun r S'=>r = .bool (usableF d) ∧ S' = S:=by
  refine CallA.keep Tryz.func84 c4031 (Nat.le_of_ble_eq_true rfl) fun σ hσ=>?_
  by_cases h : 1 ≤ d.mi
  · have e : usableF d = decide (d.mi ≤ 20000):=by simp [usableF,h]
    rw[e]
    simp (disch:=first|omega|(simp only[lenT];omega)) only[a4031,dstR,h,evSt,↓eA,eB,evU,seval]
  · have e : usableF d = false:=by simp [usableF,h]
    rw[e]
    simp (disch:=first|omega|(simp only[lenT];omega)) only[a4031,dstR,h,decide_false,evSt,↓eA,eB,evU,seval]
def spR (p : Txt × Int) : List V:=[.str p.1,.int .i64 p.2]
def lookI (l : Spots) (c : Txt) : Int:=match look l c with
  | some v=>v
  | none=>-1
theorem look_at {l : Spots} {k : Nat} {c : Txt} {p : Txt × Int} (h : look l c = look (l.drop k) c) (hp : l[k]? = some p) : look l c = if p.1 = c then some p.2 else look (l.drop (k + 1)) c:=by
  have e : l.drop k = p :: l.drop (k + 1):=by
    obtain ⟨hlt,rfl⟩:=List.getElem?_eq_some_iff.1 hp
    exact List.drop_eq_getElem_cons hlt
  rw[h,e,look]
theorem look_end {l : Spots} {k : Nat} {c : Txt} (h : look l c = look (l.drop k) c) (hp : l[k]? = none) : look l c = none:=by
  rw[h,List.drop_eq_nil_of_le (List.getElem?_eq_none_iff.1 hp)]
  rfl
theorem reached_A (l : Spots) (c : Txt) (S T : Store) (w : Nat) (hl : l.length ≤ 1000000) :
    CallA Tryz.prog 127 [.msl S.length w 0 l.length,.str c] (S ++ ⟨w,some (.arr 166 2 (l.map spR))⟩ :: T) fun r S'=>r = .int .i64 (lookI l c) ∧ S' = S ++ ⟨w,some (.arr 166 2 (l.map spR))⟩ :: T:=by
  refine CallA.keep Tryz.func127 c4032 (Nat.le_of_ble_eq_true rfl) fun σ hσ=>?_
  simp (disch:=first|omega|(simp only[lenT];omega)) only[a4032,evSt,↓eA,eB,evU,seval]
  refine loopA (ι:=Nat) (fun k=>[(0,.msl S.length w 0 l.length),(1,.str c),(5,.int .i64 k)]) (fun _=>S ++ ⟨w,some (.arr 166 2 (l.map spR))⟩ :: T) (fun k=>k ≤ l.length ∧ look l c = look (l.drop k) c) (fun k=>l.length - k) 0 ⟨Nat.zero_le _,rfl⟩ ?_ rfl ?_
  · simp only[↓eA,eB,evU,seval]
  · rintro k ⟨hk,hinv⟩
    cases hc : l[k]? with
    | none =>
      have hlt : ¬ ((k : Int) < l.length):=by rw[List.getElem?_eq_none_iff] at hc;omega
      have e : lookI l c = -1:=by rw[lookI,look_end hinv hc]
      simp (disch:=first|omega|(simp only[lenT];omega)) only[hlt,e,decide_false,evSt,↓eA,eB,evU,seval]
    | some p =>
      have hlt':=(List.getElem?_eq_some_iff.1 hc).1
      have hlt : (k : Int) < l.length:=by omega
      have hs:=look_at hinv hc
      by_cases h : p.1 = c
      · rw[if_pos h] at hs
        have e : lookI l c = p.2:=by rw[lookI,hs]
        have he : decide (p.1 = c) = true:=by simp [h]
        simp (disch:=first|omega|(simp only[lenT];omega)) only[spR,hlt,hc,he,e,Nat.zero_add,evSt,↓eA,eB,evU,seval]
      · rw[if_neg h] at hs
        simp (disch:=first|omega|(simp only[lenT];omega)) only[spR,hlt,hc,h,wrap_i64,decide_false,Nat.zero_add,evSt,↓eA,eB,evU,seval]
        exact ⟨k + 1,⟨by omega,hs⟩,by omega,rfl⟩
theorem put_at {l : Spots} {c : Txt} {m : Int} : ∀ {k : Nat} {p : Txt × Int},l[k]? = some p → p.1 = c → (∀ j q,j < k → l[j]? = some q → ¬ q.1 = c) → putL l c m = l.set k (p.1,m):=by
  induction l with
  | nil=>intro k p h;simp at h
  | cons x l ih =>
    intro k p hk hp hno
    cases k with
    | zero =>
      simp at hk
      subst hk
      simp [putL,hp]
    | succ k =>
      have h0:=hno 0 x (by omega) rfl
      rw[putL,if_neg h0,List.set_cons_succ]
      congr 1
      exact ih (by simpa using hk) hp fun j q hj hq=>hno (j + 1) q (by omega) (by simpa using hq)
theorem put_end {l : Spots} {c : Txt} {m : Int} (h : look l c = none) : putL l c m = l ++ [(c,m)]:=by
  induction l with
  | nil=>rfl
  | cons x l ih =>
    rw[look] at h
    split at h
    · cases h
    · rename_i e
      rw[putL,if_neg e,ih h];rfl
theorem reach_A (l : Spots) (c : Txt) (m : Int) (S T : Store) (w : Nat) (hl : l.length ≤ 1000000) :
    CallA Tryz.prog 128 [.msl S.length w 0 l.length,.str c,.int .i64 m] (S ++ ⟨w,some (.arr 166 2 (l.map spR))⟩ :: T) fun r S'=>∃ w',r = .tup [.msl S.length w' 0 (reachF l c m).1.length,.bool (reachF l c m).2] ∧ S' = S ++ ⟨w',some (.arr 166 2 ((reachF l c m).1.map spR))⟩ :: T:=by
  refine CallA.keep Tryz.func128 c4033 (Nat.le_of_ble_eq_true rfl) fun σ hσ=>?_
  simp (disch:=first|omega|(simp only[lenT];omega)) only[a4033,evSt,↓eA,eB,evU,seval]
  refine loopA (ι:=Nat) (fun k=>[(0,.msl S.length w 0 l.length),(1,.str c),(2,.int .i64 m),(8,.int .i64 k)]) (fun _=>S ++ ⟨w,some (.arr 166 2 (l.map spR))⟩ :: T) (fun k=>k ≤ l.length ∧ look l c = look (l.drop k) c ∧ ∀ j q,j < k → l[j]? = some q → ¬ q.1 = c) (fun k=>l.length - k) 0 ⟨Nat.zero_le _,rfl,fun j q h=>by omega⟩ ?_ rfl ?_
  · simp only[↓eA,eB,evU,seval]
  · rintro k ⟨hk,hinv,hno⟩
    cases hc : l[k]? with
    | none =>
      have hlt : ¬ ((k : Int) < l.length):=by rw[List.getElem?_eq_none_iff] at hc;omega
      have hlook:=look_end hinv hc
      have e : reachF l c m = (l ++ [(c,m)],true):=by simp only[reachF,hlook,put_end hlook]
      simp (disch:=first|omega|(simp only[lenT];omega)) only[hlt,e,decide_false,evSt,↓eA,eB,evU,seval]
      exact ⟨by unfold roomA;omega,w + 1,by simp,by simp [spR]⟩
    | some p =>
      have hlt':=(List.getElem?_eq_some_iff.1 hc).1
      have hlt : (k : Int) < l.length:=by omega
      have hs:=look_at hinv hc
      by_cases h : p.1 = c
      · rw[if_pos h] at hs
        have he : decide (p.1 = c) = true:=by simp [h]
        by_cases hv : p.2 ≤ m
        · have e : reachF l c m = (l,false):=by simp only[reachF,hs,hv,if_true]
          simp (disch:=first|omega|(simp only[lenT];omega)) only[spR,hlt,hc,he,hv,e,Nat.zero_add,evSt,↓eA,eB,evU,seval]
          exact ⟨w,rfl,rfl⟩
        · have e : reachF l c m = (l.set k (p.1,m),true):=by simp only[reachF,hs,hv,if_false,put_at hc h hno]
          simp (disch:=first|omega|(simp only[lenT];omega)) only[spR,hlt,hc,he,hv,e,decide_false,Nat.zero_add,evSt,↓eA,eB,evU,seval]
          exact ⟨w,by simp,by simp [List.map_set,spR]⟩
      · rw[if_neg h] at hs
        simp (disch:=first|omega|(simp only[lenT];omega)) only[spR,hlt,hc,h,wrap_i64,decide_false,Nat.zero_add,evSt,↓eA,eB,evU,seval]
        refine ⟨k + 1,⟨by omega,hs,fun j q hj hq=>?_⟩,by omega,rfl⟩
        by_cases hjk : j < k
        · exact hno j q hjk hq
        · obtain rfl : j = k:=by omega
          rw[hc] at hq
          cases hq
          exact h
end Go.Proofs.YtanmnoipikdplaaGreat.Ml
