/- Component: conditions that hold, both sides. -/
import Derived.Test.YtanmnoipikdplaaGreatWCn3
import Derived.Test.YtanmnoipikdplaaGreatWCn7
namespace Go.Proofs.YtanmnoipikdplaaGreat
open Go Go.AL
set_option linter.unusedSectionVars false
variable [Go.AL.Mode]
set_option linter.unusedSimpArgs false
set_option linter.unusedVariables false
theorem cl1_A (c : Cnd) (t : Trp) (S : Store) (h : CallA Tryz.prog 74 [.agg c.row,.agg (trpR t)] S fun v S'=>v = .bool (c.holds t) ∧ S' = S) : CallA Tryz.prog 100 [.agg c.row,.cptr (trpR t)] S fun v S'=>v = .bool (c.holds t) ∧ S' = S:=by
  obtain ⟨k,l,a,b,p,tx⟩:=c
  refine CallA.keep Tryz.func100 c5053 (Nat.le_of_ble_eq_true rfl) fun σ hσ=>?_
  simp only[Cnd.row,trpR] at h
  simp (disch:=first|omega|(simp only[lenT];omega)) only[a5053,Cnd.row,trpR,evSt,↓eA,eB,evU,seval]
  refine h.then ?_
  simp (disch:=first|omega|(simp only[lenT];omega)) only[evSt,↓eA,eB,evU,seval]
theorem cl2_A (c : Cnd) (t : Trp) (S : Store) (h : CallA Tryz.prog 74 [.agg c.row,.agg (trpR t)] S fun v S'=>v = .bool (c.holds t) ∧ S' = S) : CallA Tryz.prog 101 [.agg c.row,.cptr (trpR t)] S fun v S'=>v = .bool (!c.holds t) ∧ S' = S:=by
  obtain ⟨k,l,a,b,p,tx⟩:=c
  refine CallA.keep Tryz.func101 c5054 (Nat.le_of_ble_eq_true rfl) fun σ hσ=>?_
  simp only[Cnd.row,trpR] at h
  simp (disch:=first|omega|(simp only[lenT];omega)) only[a5054,Cnd.row,trpR,evSt,↓eA,eB,evU,seval]
  refine h.then ?_
  simp (disch:=first|omega|(simp only[lenT];omega)) only[evSt,↓eA,eB,evU,seval]
theorem kind_case {k : Int} (h1 : 1 ≤ k) (h2 : k ≤ 14) : k = 1 ∨ k = 2 ∨ k = 3 ∨ k = 4 ∨ k = 5 ∨ k = 6 ∨ k = 7 ∨ k = 8 ∨ k = 9 ∨ k = 10 ∨ k = 11 ∨ k = 12 ∨ k = 13 ∨ k = 14:=by omega
set_option maxHeartbeats 8000000 in
set_option maxRecDepth 20000 in
theorem holds_A (t : Trp) : ∀ c : Cnd,c.right → ∀ S : Store,CallA Tryz.prog 74 [.agg c.row,.agg (trpR t)] S fun v S'=>v = .bool (c.holds t) ∧ S' = S:=by
  refine Cnd.ind fun k l a b p tx ih hr S=>?_
  obtain ⟨hk1,hk2,hk4,hrl⟩:=hr
  have ih2 : ∀ c ∈ l,∀ S : Store,CallA Tryz.prog 74 [.agg c.row,.agg (trpR t)] S fun v S'=>v = .bool (c.holds t) ∧ S' = S:=fun c hc S=>ih c hc ((Cnd.rightL_all l).1 hrl c hc) S
  have g1:=fun S=>anyC_A l (Cnd.holds t) 100 [.cptr (trpR t)] S fun x hx=>cl1_A x t S (ih2 x hx S)
  have g2:=fun S=>anyC_A l (fun c=>!Cnd.holds t c) 101 [.cptr (trpR t)] S fun x hx=>cl2_A x t S (ih2 x hx S)
  have g12:=fun S=>anyI_A t.nums (fun n=>!(decide (a ≤ n) && decide (n ≤ b))) 106 [.cptr (Cnd.mk k l a b p tx).row] S fun x _=>num1_A (.mk k l a b p tx) a b p tx k l x S
  simp only[trpR,← Cnd.rows_eq] at g1 g2
  simp only[Cnd.row,trpR] at g12
  rw[Cnd.holds]
  clear ih ih2
  refine CallA.keep Tryz.func74 c5052 (Nat.le_of_ble_eq_true rfl) fun σ hσ=>?_
  have gh:=has_A p
  simp only[pdR] at gh
  rcases kind_case hk1 hk2 with rfl | rfl | rfl | rfl | rfl | rfl | rfl | rfl | rfl | rfl | rfl | rfl | rfl | rfl<;>clear hk1 hk2 hk4
  · simp (disch:=first|omega|(simp only[lenT];omega)) only[a5052,Cnd.row,trpR,evSt,↓eA,eB,evU,seval]
  · simp (disch:=first|omega|(simp only[lenT];omega)) only[a5052,Cnd.row,trpR,evSt,↓eA,eB,evU,seval]
    refine (g2 S).then ?_
    simp (disch:=first|omega|(simp only[lenT];omega)) only[List.not_any_eq_all_not,Bool.not_not,Cnd.allH_eq,evSt,↓eA,eB,evU,seval]
  · simp (disch:=first|omega|(simp only[lenT];omega)) only[a5052,Cnd.row,trpR,evSt,↓eA,eB,evU,seval]
    refine (g1 S).then ?_
    simp (disch:=first|omega|(simp only[lenT];omega)) only[Cnd.anyH_eq,evSt,↓eA,eB,evU,seval]
  · simp (disch:=first|omega|(simp only[lenT];omega)) only[a5052,Cnd.row,trpR,evSt,↓eA,eB,evU,seval]
    refine (g2 S).then ?_
    simp (disch:=first|omega|(simp only[lenT];omega)) only[List.not_all_eq_any_not,Cnd.allH_eq,evSt,↓eA,eB,evU,seval]
  · simp (disch:=first|omega|(simp only[lenT];omega)) only[a5052,Cnd.row,trpR,evSt,↓eA,eB,evU,seval]
    refine (gh _ S).then ?_
    simp (disch:=first|omega|(simp only[lenT];omega)) only[evSt,↓eA,eB,evU,seval]
  · simp (disch:=first|omega|(simp only[lenT];omega)) only[a5052,Cnd.row,trpR,evSt,↓eA,eB,evU,seval]
    refine (gh _ S).then ?_
    simp (disch:=first|omega|(simp only[lenT];omega)) only[evSt,↓eA,eB,evU,seval]
  · simp (disch:=first|omega|(simp only[lenT];omega)) only[a5052,Cnd.row,trpR,evSt,↓eA,eB,evU,seval]
  · cases h1 : decide (a ≤ b)<;>cases h2 : decide (a ≤ t.min)<;>simp (disch:=first|omega|(simp only[lenT];omega)) only[a5052,Cnd.row,trpR,h1,h2,evSt,↓eA,eB,evU,seval]
    all_goals first | (rw[if_pos (of_decide_eq_true h1)];done) | (rw[if_pos (of_decide_eq_true h1)];simp only[Bool.true_and,Bool.false_and]) | (rw[if_neg (of_decide_eq_false h1)];simp only[Bool.true_or,Bool.false_or])
  · simp (disch:=first|omega|(simp only[lenT];omega)) only[a5052,Cnd.row,trpR,evSt,↓eA,eB,evU,seval]
  · simp (disch:=first|omega|(simp only[lenT];omega)) only[a5052,Cnd.row,trpR,evSt,↓eA,eB,evU,seval]
  · simp (disch:=first|omega|(simp only[lenT];omega)) only[a5052,Cnd.row,trpR,evSt,↓eA,eB,evU,seval]
    refine (among_A _ _ S).then ?_
    simp (disch:=first|omega|(simp only[lenT];omega)) only[evSt,↓eA,eB,evU,seval]
  · simp (disch:=first|omega|(simp only[lenT];omega)) only[a5052,Cnd.row,trpR,evSt,↓eA,eB,evU,seval]
    refine (g12 S).then ?_
    simp (disch:=first|omega|(simp only[lenT];omega)) only[List.not_any_eq_all_not,Bool.not_not,evSt,↓eA,eB,evU,seval]
  · simp (disch:=first|omega|(simp only[lenT];omega)) only[a5052,Cnd.row,trpR,evSt,↓eA,eB,evU,seval]
    refine (among_A _ _ S).then ?_
    simp (disch:=first|omega|(simp only[lenT];omega)) only[evSt,↓eA,eB,evU,seval]
  · simp (disch:=first|omega|(simp only[lenT];omega)) only[a5052,Cnd.row,trpR,evSt,↓eA,eB,evU,seval]
    refine (hasT_A _ _ S).then ?_
    simp (disch:=first|omega|(simp only[lenT];omega)) only[evSt,↓eA,eB,evU,seval]
theorem count_A (t : Trp) (l : List Cnd) (h : ∀ c ∈ l,∀ S : Store,CallA Tryz.prog 76 [.agg c.row,.agg (trpR t)] S fun v S'=>v = .bool (c.holds t) ∧ S' = S) (S : Store) :
    CallA Tryz.prog 109 [.sl 8 (l.map Cnd.row),.agg (trpR t)] S fun v S'=>v = .int .i64 ((l.countP (Cnd.holds t) : Nat)) ∧ S' = S:=by
  refine sl_len (fun hm=>?_) ⟨Tryz.f109,Tryz.func109,by kernel_rfl,by kernel_rfl⟩
  rw[List.length_map] at hm
  have hm':=mx _ hm
  refine CallA.keep Tryz.func109 c5059 (Nat.le_of_ble_eq_true rfl) fun σ hσ=>?_
  simp (disch:=first|omega|(simp only[lenT];omega)) only[a5059,trpR,evSt,↓eA,eB,evU,seval]
  refine loopA (ι:=Nat) (fun k=>[(0,.sl 8 (l.map Cnd.row)),(3,.cptr (trpR t)),(5,.int .i64 ((l.take k).countP (Cnd.holds t) : Nat)),(6,.int .i64 (k : Nat))]) (fun _=>S) (fun k=>k ≤ l.length) (fun k=>l.length - k) 0 (Nat.zero_le _) ?_ rfl ?_
  · simp only[trpR,List.countP_nil,Int.natCast_zero,↓eA,eB,evU,seval]
    try rfl
  rintro k hk
  cases hc : l[k]? with
  | none =>
    have hge : l.length ≤ k:=List.getElem?_eq_none_iff.1 hc
    have hlt : ¬ ((k : Int) < l.length):=by omega
    simp (disch:=first|omega|(simp only[lenT];omega)) only[dF hlt,List.take_of_length_le hge,evSt,↓eA,eB,evU,seval]
  | some y =>
    have hlt':=(List.getElem?_eq_some_iff.1 hc).1
    have hlt : (k : Int) < l.length:=by omega
    have hk1 : (k : Int) + 1 = ((k + 1 : Nat) : Int):=by omega
    have hy:=h y (List.mem_of_getElem? hc) S
    have htk : (l.take (k + 1)).countP (Cnd.holds t) = (l.take k).countP (Cnd.holds t) + if y.holds t then 1 else 0:=by
      rw[List.take_add_one,hc,List.countP_append];simp [List.countP_cons]
    have hle : (l.take k).countP (Cnd.holds t) ≤ k:=Nat.le_trans List.countP_le_length (by rw[List.length_take];omega)
    generalize hz : y.holds t = z at hy htk
    obtain ⟨c1,c2,c3,c4,c5,c6⟩:=y
    simp only[Cnd.row,trpR] at hy
    simp (disch:=first|omega|(simp only[lenT];omega)) only[dT hlt,hc,Cnd.row,trpR,evSt,↓eA,eB,evU,seval]
    refine hy.then ?_
    cases z with
    | false =>
      simp (disch:=first|omega|(simp only[lenT];omega)) only[wrap_i64,hk1,evSt,↓eA,eB,evU,seval]
      exact ⟨k + 1,by omega,by omega,by rw[htk];exact ⟨rfl,rfl⟩⟩
    | true =>
      have hk2 : ((l.take k).countP (Cnd.holds t) : Int) + 1 = (((l.take k).countP (Cnd.holds t) + 1 : Nat) : Int):=by omega
      simp (disch:=first|omega|(simp only[lenT];omega)) only[wrap_i64,hk1,hk2,evSt,↓eA,eB,evU,seval]
      exact ⟨k + 1,by omega,by omega,by rw[htk];exact ⟨rfl,rfl⟩⟩
theorem cnt_all (q : Cnd → Bool) (l : List Cnd) : decide (((l.countP q : Nat) : Int) = ((l.length : Nat) : Int)) = l.all q:=by
  rw[Bool.eq_iff_iff,decide_eq_true_eq,List.all_eq_true,Int.ofNat_inj,List.countP_eq_length]
theorem cnt_any (q : Cnd → Bool) (l : List Cnd) : decide ((0 : Int) < ((l.countP q : Nat) : Int)) = l.any q:=by
  rw[Bool.eq_iff_iff,decide_eq_true_eq,List.any_eq_true,← List.countP_pos_iff];omega
theorem cnt_one (q : Cnd → Bool) (l : List Cnd) (h : l.length = 1) : decide (((l.countP q : Nat) : Int) = 0) = !l.all q:=by
  match l,h with
  | [x],_=>cases hx : q x<;>simp [hx]
set_option maxHeartbeats 8000000 in
set_option maxRecDepth 20000 in
theorem rholds_A (t : Trp) : ∀ c : Cnd,c.right → ∀ S : Store,CallA Tryz.prog 76 [.agg c.row,.agg (trpR t)] S fun v S'=>v = .bool (c.holds t) ∧ S' = S:=by
  refine Cnd.ind fun k l a b p tx ih hr S=>?_
  obtain ⟨hk1,hk2,hk4,hrl⟩:=hr
  have ih2 : ∀ c ∈ l,∀ S : Store,CallA Tryz.prog 76 [.agg c.row,.agg (trpR t)] S fun v S'=>v = .bool (c.holds t) ∧ S' = S:=fun c hc S=>ih c hc ((Cnd.rightL_all l).1 hrl c hc) S
  have g1:=fun S=>count_A t l ih2 S
  simp only[trpR,← Cnd.rows_eq] at g1
  rw[Cnd.holds]
  clear ih ih2
  refine CallA.keep Tryz.func76 c5058 (Nat.le_of_ble_eq_true rfl) fun σ hσ=>?_
  have gh:=rhas_A p
  simp only[pdR] at gh
  have hln : (Cnd.rows l).length = l.length:=by rw[Cnd.rows_eq,List.length_map]
  rcases kind_case hk1 hk2 with rfl | rfl | rfl | rfl | rfl | rfl | rfl | rfl | rfl | rfl | rfl | rfl | rfl | rfl<;>clear hk1 hk2
  · simp (disch:=first|omega|(simp only[lenT];omega)) only[a5058,Cnd.row,trpR,evSt,↓eA,eB,evU,seval]
  · simp (disch:=first|omega|(simp only[lenT];omega)) only[a5058,Cnd.row,trpR,evSt,↓eA,eB,evU,seval]
    refine exD.intro (g1 S) ?_
    simp (disch:=first|omega|(simp only[lenT];omega)) only[hln,cnt_all,Cnd.allH_eq,evSt,↓eA,eB,evU,seval]
  · simp (disch:=first|omega|(simp only[lenT];omega)) only[a5058,Cnd.row,trpR,evSt,↓eA,eB,evU,seval]
    refine (g1 S).then ?_
    simp (disch:=first|omega|(simp only[lenT];omega)) only[cnt_any,Cnd.anyH_eq,evSt,↓eA,eB,evU,seval]
  · simp (disch:=first|omega|(simp only[lenT];omega)) only[a5058,Cnd.row,trpR,evSt,↓eA,eB,evU,seval]
    refine (g1 S).then ?_
    simp (disch:=first|omega|(simp only[lenT];omega)) only[cnt_one _ _ (hk4 rfl),Cnd.allH_eq,evSt,↓eA,eB,evU,seval]
  · simp (disch:=first|omega|(simp only[lenT];omega)) only[a5058,Cnd.row,trpR,evSt,↓eA,eB,evU,seval]
    refine (gh _ S).then ?_
    simp (disch:=first|omega|(simp only[lenT];omega)) only[evSt,↓eA,eB,evU,seval]
  · simp (disch:=first|omega|(simp only[lenT];omega)) only[a5058,Cnd.row,trpR,evSt,↓eA,eB,evU,seval]
    refine (gh _ S).then ?_
    simp (disch:=first|omega|(simp only[lenT];omega)) only[evSt,↓eA,eB,evU,seval]
  · simp (disch:=first|omega|(simp only[lenT];omega)) only[a5058,Cnd.row,trpR,evSt,↓eA,eB,evU,seval]
  · cases h1 : decide (a ≤ b)<;>cases h2 : decide (a ≤ t.min)<;>simp (disch:=first|omega|(simp only[lenT];omega)) only[a5058,Cnd.row,trpR,h1,h2,evSt,↓eA,eB,evU,seval]
    all_goals first | (rw[if_pos (of_decide_eq_true h1)];done) | (rw[if_pos (of_decide_eq_true h1)];simp only[Bool.true_and,Bool.false_and]) | (rw[if_neg (of_decide_eq_false h1)];simp only[Bool.true_or,Bool.false_or])
  · simp (disch:=first|omega|(simp only[lenT];omega)) only[a5058,Cnd.row,trpR,evSt,↓eA,eB,evU,seval]
  · simp (disch:=first|omega|(simp only[lenT];omega)) only[a5058,Cnd.row,trpR,evSt,↓eA,eB,evU,seval]
  · simp (disch:=first|omega|(simp only[lenT];omega)) only[a5058,Cnd.row,trpR,evSt,↓eA,eB,evU,seval]
    refine (within_A _ _ S).then ?_
    simp (disch:=first|omega|(simp only[lenT];omega)) only[evSt,↓eA,eB,evU,seval]
  · simp (disch:=first|omega|(simp only[lenT];omega)) only[a5058,Cnd.row,trpR,evSt,↓eA,eB,evU,seval]
    refine (between_A _ _ _ S).then ?_
    simp (disch:=first|omega|(simp only[lenT];omega)) only[evSt,↓eA,eB,evU,seval]
  · simp (disch:=first|omega|(simp only[lenT];omega)) only[a5058,Cnd.row,trpR,evSt,↓eA,eB,evU,seval]
    refine (within_A _ _ S).then ?_
    simp (disch:=first|omega|(simp only[lenT];omega)) only[evSt,↓eA,eB,evU,seval]
  · simp (disch:=first|omega|(simp only[lenT];omega)) only[a5058,Cnd.row,trpR,evSt,↓eA,eB,evU,seval]
    refine (has20_A _ _ S).then ?_
    simp (disch:=first|omega|(simp only[lenT];omega)) only[evSt,↓eA,eB,evU,seval]
end Go.Proofs.YtanmnoipikdplaaGreat
/- Component: fares,ends,ways,reasons,amounts,both sides. -/
namespace Go.Proofs.YtanmnoipikdplaaGreat
open Go Go.AL
set_option linter.unusedSectionVars false
variable [Go.AL.Mode]
set_option linter.unusedSimpArgs false
set_option linter.unusedVariables false
def RulOk (r : Rul) : Prop:=r.w.right ∧ ∀ q ∈ r.per,0 ≤ q.2 ∧ q.2 ≤ 1000
structure TOk (t : Tar) : Prop where
  fares : t.fares.length ≤ 1000
  rules : t.rules.length ≤ 1000
  routs : t.routs.length ≤ 1000
  ok : ∀ r ∈ t.rules,RulOk r
theorem holds0_A (t : Trp) (S : Store) : CallA Tryz.prog 74 [.agg zCnd.row,.agg (trpR t)] S fun v S'=>v = .bool (zCnd.holds t) ∧ S' = S:=by
  refine CallA.keep Tryz.func74 c5052 (Nat.le_of_ble_eq_true rfl) fun σ hσ=>?_
  have e : zCnd.holds t = false:=by simp [zCnd,Cnd.holds]
  rw[e]
  simp (disch:=first|omega|(simp only[lenT];omega)) only[a5052,zCnd,Cnd.row,trpR,evSt,↓eA,eB,evU,seval]
theorem rholds0_A (t : Trp) (S : Store) : CallA Tryz.prog 76 [.agg zCnd.row,.agg (trpR t)] S fun v S'=>v = .bool (zCnd.holds t) ∧ S' = S:=by
  refine CallA.keep Tryz.func76 c5058 (Nat.le_of_ble_eq_true rfl) fun σ hσ=>?_
  have e : zCnd.holds t = false:=by simp [zCnd,Cnd.holds]
  rw[e]
  have h:=has20_A [] t.ty
  simp only[List.map_nil] at h
  simp (disch:=first|omega|(simp only[lenT];omega)) only[a5058,zCnd,Cnd.row,trpR,evSt,↓eA,eB,evU,seval]
  refine (h S).then ?_
  simp (disch:=first|omega|(simp only[lenT];omega)) only[List.contains_nil,evSt,↓eA,eB,evU,seval]
theorem rul_get {t : Tar} (h : TOk t) (n : Int) : (((ruleF t n).getD zRul).w.right ∨ ((ruleF t n).getD zRul).w = zCnd) ∧ ∀ q ∈ ((ruleF t n).getD zRul).per,0 ≤ q.2 ∧ q.2 ≤ 1000:=by
  cases hf : ruleF t n with
  | some r =>
    have:=h.ok r (List.mem_of_find?_eq_some hf)
    exact ⟨.inl this.1,this.2⟩
  | none=>exact ⟨.inr rfl,fun q hq=>by simp [zRul] at hq⟩
theorem holdsZ_A (t : Trp) (c : Cnd) (h : c.right ∨ c = zCnd) (S : Store) : CallA Tryz.prog 74 [.agg c.row,.agg (trpR t)] S fun v S'=>v = .bool (c.holds t) ∧ S' = S:=by
  rcases h with h | rfl
  · exact holds_A t c h S
  · exact holds0_A t S
theorem rholdsZ_A (t : Trp) (c : Cnd) (h : c.right ∨ c = zCnd) (S : Store) : CallA Tryz.prog 76 [.agg c.row,.agg (trpR t)] S fun v S'=>v = .bool (c.holds t) ∧ S' = S:=by
  rcases h with h | rfl
  · exact rholds_A t c h S
  · exact rholds0_A t S
def alwF (r : Rul) (t : Trp) : Int:=if r.w.holds t then 0 else 20
theorem alw_A (r : Rul) (h : r.w.right ∨ r.w = zCnd) (t : Trp) (S : Store) : CallA Tryz.prog 48 [.agg (rulR r),.agg (trpR t)] S fun v S'=>v = .int .i64 (alwF r t) ∧ S' = S:=by
  refine CallA.keep Tryz.func48 c5037 (Nat.le_of_ble_eq_true rfl) fun σ hσ=>?_
  have hh:=holdsZ_A t r.w h S
  unfold alwF
  generalize hz : r.w.holds t = z at hh
  obtain ⟨n0,⟨c1,c2,c3,c4,c5,c6⟩,cb,mn,m2,ch,rf,per⟩:=r
  simp only[Cnd.row,trpR] at hh hz
  simp (disch:=first|omega|(simp only[lenT];omega)) only[a5037,rulR,Cnd.row,trpR,hz,evSt,↓eA,eB,evU,seval]
  refine hh.then ?_
  cases z<;>simp (disch:=first|omega|(simp only[lenT];omega)) only[if_true,if_false,Bool.false_eq_true,evSt,↓eA,eB,evU,seval]
theorem ralw_A (r : Rul) (h : r.w.right ∨ r.w = zCnd) (t : Trp) (S : Store) : CallA Tryz.prog 50 [.agg (rulR r),.agg (trpR t)] S fun v S'=>v = .int .i64 (alwF r t) ∧ S' = S:=by
  refine CallA.keep Tryz.func50 c5039 (Nat.le_of_ble_eq_true rfl) fun σ hσ=>?_
  have hh:=rholdsZ_A t r.w h S
  unfold alwF
  generalize hz : r.w.holds t = z at hh
  obtain ⟨n0,⟨c1,c2,c3,c4,c5,c6⟩,cb,mn,m2,ch,rf,per⟩:=r
  simp only[Cnd.row,trpR] at hh hz
  simp (disch:=first|omega|(simp only[lenT];omega)) only[a5039,rulR,Cnd.row,trpR,hz,evSt,↓eA,eB,evU,seval]
  refine hh.then ?_
  cases z<;>simp (disch:=first|omega|(simp only[lenT];omega)) only[if_true,if_false,Bool.false_eq_true,evSt,↓eA,eB,evU,seval]
def zFr : Fr:=⟨[],[],[],[],[],false,0,0,0⟩
def fareO (t : Tar) (at_ : Int) (l : List Wnt) : Option Fr:=if l = [] ∨ at_ < 0 then none else t.fares[at_.toNat]?
theorem fare_A (t : Tar) (tx : List (List V)) (h : TOk t) (at_ : Int) (l : List Wnt) (S : Store) : CallA Tryz.prog 34 [.agg (tarV t tx),.int .i64 at_,.sl 8 (l.map wntR)] S fun v S'=>v = .tup [.agg (frR ((fareO t at_ l).getD zFr)),.bool (fareO t at_ l).isSome] ∧ S' = S:=by
  refine CallA.withNeat Tryz.func34 c5011 fun hn=>?_
  refine CallA.fin Tryz.func34 c5011 (Nat.le_of_ble_eq_true rfl) fun σ hσ=>?_
  by_cases h1 : ((l.length : Nat) : Int) = 0
  · have e : fareO t at_ l = none:=if_pos (.inl (List.length_eq_zero_iff.1 (by omega)))
    rw[e]
    simp (disch:=first|omega|(simp only[lenT];omega)) only[a5011,tarV,dT h1,evSt,↓eA,eB,evU,seval]
    exact ⟨_,S,hn.fgt _,.imm rfl,Nat.le_refl _,rfl,rfl⟩
  by_cases h2 : at_ < 0
  · have e : fareO t at_ l = none:=if_pos (.inr h2)
    rw[e]
    simp (disch:=first|omega|(simp only[lenT];omega)) only[a5011,tarV,dF h1,dT h2,evSt,↓eA,eB,evU,seval]
    exact ⟨_,S,hn.fgt _,.imm rfl,Nat.le_refl _,rfl,rfl⟩
  have e : fareO t at_ l = t.fares[at_.toNat]?:=if_neg (by
    rintro (h | h)
    · rw[h] at h1;exact h1 rfl
    · exact h2 h)
  rw[e]
  obtain ⟨n,rfl⟩ : ∃ n : Nat,at_ = (n : Nat):=⟨at_.toNat,by omega⟩
  rw[Int.toNat_natCast]
  cases hc : t.fares[n]? with
  | none =>
    have hge : t.fares.length ≤ n:=List.getElem?_eq_none_iff.1 hc
    have h3 : ((t.fares.length : Nat) : Int) ≤ (n : Nat):=by omega
    simp (disch:=first|omega|(simp only[lenT];omega)) only[a5011,tarV,dF h1,dF h2,dT h3,evSt,↓eA,eB,evU,seval]
    exact ⟨_,S,hn.fgt _,.imm rfl,Nat.le_refl _,rfl,rfl⟩
  | some a =>
    have hlt:=(List.getElem?_eq_some_iff.1 hc).1
    have h3 : ¬ ((t.fares.length : Nat) : Int) ≤ (n : Nat):=by omega
    simp (disch:=first|omega|(simp only[lenT];omega)) only[a5011,tarV,dF h1,dF h2,dF h3,hc,frR,evSt,↓eA,eB,evU,seval]
    exact ⟨_,S,hn.fgt _,.imm rfl,Nat.le_refl _,rfl,rfl⟩
theorem ends_A (f : Fr) (l : List Wnt) (hl : l.length ≤ 1000) (cs : List Txt) (hcs : cs ≠ []) (hcl : cs.length ≤ 1000) (S : Store) : CallA Tryz.prog 45 [.agg (frR f),.sl 8 (l.map wntR),.sl 1 (cs.map txR)] S fun v S'=>v = .bool (endsF f l cs) ∧ S' = S:=by
  refine CallA.withNeat Tryz.func45 c5012 fun hn=>?_
  refine CallA.fin Tryz.func45 c5012 (Nat.le_of_ble_eq_true rfl) fun σ hσ=>?_
  have hpos : 0 < cs.length:=List.length_pos_iff.2 hcs
  have ha : cs[0]? = some cs[0]:=List.getElem?_eq_getElem hpos
  have hb : cs[cs.length - 1]? = some cs[cs.length - 1]:=List.getElem?_eq_getElem (by omega)
  generalize cs[0] = ca at ha
  generalize cs[cs.length - 1] = cb at hb
  have he : endsF f l cs = ((l.all fun w=>decide (w.s.c = f.c)) && (decide (ca = f.f) && decide (cb = f.t))):=by
    unfold endsF
    rw[List.head?_eq_getElem?,ha,List.getLast?_eq_getElem?,hb]
    simp only[Option.some.injEq]
  rw[he]
  have hm1 : ((cs.length : Nat) : Int) - 1 = ((cs.length - 1 : Nat) : Int):=by omega
  simp (disch:=first|omega|(simp only[lenT];omega)) only[a5012,frR,evSt,↓eA,eB,evU,seval]
  refine loopF (ι:=Nat) (fun k=>[(2,.sl 1 (cs.map txR)),(3,.cptr (frR f)),(9,.sl 8 (l.map wntR)),(10,.int .i64 l.length),(11,.int .i64 (k : Nat))]) (fun _=>S) (fun k=>k ≤ l.length ∧ (l.all fun w=>decide (w.s.c = f.c)) = ((l.drop k).all fun w=>decide (w.s.c = f.c))) (fun k=>l.length - k) (fun i hi=>by rw[hσ];exact Nat.le_refl _) 0 ⟨Nat.zero_le _,rfl⟩ (.inl ⟨?_,rfl⟩) ?_
  · simp only[frR,↓eA,eB,evU,seval]
    try rfl
  rintro k ⟨hk,hin⟩
  cases hc : l[k]? with
  | none =>
    have hge : l.length ≤ k:=List.getElem?_eq_none_iff.1 hc
    have hlt : ¬ ((k : Int) < l.length):=by omega
    rw[List.drop_eq_nil_of_le hge,List.all_nil] at hin
    rw[hin,Bool.true_and]
    cases h1 : decide (ca = f.f)<;>cases h2 : decide (cb = f.t)<;>simp (disch:=first|omega|(simp only[lenT];omega)) only[dF hlt,frR,txR,ha,hb,h1,h2,hm1,wrap_i64,evSt,↓eA,eB,evU,seval]
    all_goals exact ⟨_,S,hn.self,.imm rfl,Nat.le_refl _,rfl,rfl⟩
  | some y =>
    have hlt':=(List.getElem?_eq_some_iff.1 hc).1
    have hlt : (k : Int) < l.length:=by omega
    have hk1 : (k : Int) + 1 = ((k + 1 : Nat) : Int):=by omega
    rw[drop_at hc,List.all_cons] at hin
    cases h1 : decide (y.s.c = f.c)<;>rw[h1] at hin<;>simp (disch:=first|omega|(simp only[lenT];omega)) only[dT hlt,hc,h1,frR,wntR,sgR,wrap_i64,hk1,evSt,↓eA,eB,evU,seval]
    · rw[hin]
      exact ⟨_,S,hn.fgt _,.imm rfl,Nat.le_refl _,by simp only[Bool.false_and],rfl⟩
    · exact ⟨k + 1,⟨by omega,by simpa only[Bool.true_and] using hin⟩,by omega,back_under (hn.fgt _) (by simp only[frR,↓eA,eB,evU,seval];try rfl) (by simp [V.under,V.allUnder])⟩
theorem why1_A (f : Fr) (w : Wnt) (S : Store) : CallA Tryz.prog 47 [.agg (wntR w),.cptr (frR f)] S fun v S'=>v = .bool (decide (w.cl ≠ f.cl)) ∧ S' = S:=by
  refine CallA.keep Tryz.func47 c5015 (Nat.le_of_ble_eq_true rfl) fun σ hσ=>?_
  simp (disch:=first|omega|(simp only[lenT];omega)) only[a5015,frR,wntR,sgR,decide_not,ne_eq,evSt,↓eA,eB,evU,seval]
theorem of2_A (p : Pls) (cs : List Txt) (m : Int) (S : Store) (hl : p.1.length ≤ 1000) (hd : p.2.length ≤ 1000) (hc : cs.length ≤ 1000) : CallA Tryz.prog 36 [plV p,.sl 1 (cs.map txR),.int .i64 m] S fun r S'=>r = .tup [.int .i64 (Ml.ofF p cs m).1,.int .i64 (Ml.ofF p cs m).2] ∧ S' = S:=Ml.of_A p cs m S (by omega) hd (by omega)
theorem rof2_A (p : Pls) (cs : List Txt) (m : Int) (S : Store) (hl : p.1.length ≤ 1000) (hd : p.2.length ≤ 1000) (hc : cs.length ≤ 1000) : CallA Tryz.prog 41 [plV p,.sl 1 (cs.map txR),.int .i64 m] S fun r S'=>r = .tup [.int .i64 (Ml.ofF p cs m).1,.int .i64 (Ml.ofF p cs m).2] ∧ S' = S:=Ml.refof_A p cs m S (by omega) hd (by omega)
structure POk2 (p : Pls) : Prop where
  apts : p.1.length ≤ 1000
  dsts : p.2.length ≤ 1000
  zns : ZnsOk p
theorem way_A (p : Pls) (hp : POk2 p) (t : Tar) (tx : List (List V)) (h : TOk t) (f : Fr) (cs : List Txt) (hc : cs.length ≤ 1000) (S : Store) : CallA Tryz.prog 49 [plV p,.agg (tarV t tx),.agg (frR f),.sl 1 (cs.map txR)] S fun v S'=>v = .int .i64 (wayF p t f cs) ∧ S' = S:=by
  refine CallA.withNeat Tryz.func49 c5013 fun hn=>?_
  refine CallA.fin Tryz.func49 c5013 (Nat.le_of_ble_eq_true rfl) fun σ hσ=>?_
  have tr:=fun S=>trout_A t tx (by have:=h.routs;omega) f.rout S
  unfold wayF
  generalize hr : (routF t f.rout).getD zRou = r at tr
  have al:=fun S=>allows_A r cs hc S
  have of_:=fun S=>of2_A p cs r.mi S hp.apts hp.dsts hc
  simp only[tarV,oRou,hr,plV,rouR] at tr al of_
  by_cases h0 : f.rout = 0
  · simp (disch:=first|omega|(simp only[lenT];omega)) only[a5013,plV,tarV,frR,dT h0,if_pos h0,evSt,↓eA,eB,evU,seval]
    exact ⟨_,S,hn.self,.imm rfl,Nat.le_refl _,rfl,rfl⟩
  simp (disch:=first|omega|(simp only[lenT];omega)) only[a5013,plV,tarV,frR,dF h0,if_neg h0,evSt,↓eA,eB,evU,seval]
  refine (tr _).then ?_
  simp (disch:=first|omega|(simp only[lenT];omega)) only[rouR,evSt,↓eA,eB,evU,seval]
  refine (al _).then ?_
  cases ha : allowsF r cs with
  | false =>
    simp (disch:=first|omega|(simp only[lenT];omega)) only[if_true,evSt,↓eA,eB,evU,seval]
    exact ⟨_,S,hn.fgt _,.imm rfl,Nat.le_refl _,rfl,rfl⟩
  | true =>
    by_cases hm : r.mi ≤ 0
    · simp (disch:=first|omega|(simp only[lenT];omega)) only[dT hm,if_pos hm,Bool.true_eq_false,if_false,evSt,↓eA,eB,evU,seval]
      exact ⟨_,S,hn.fgt _,.imm rfl,Nat.le_refl _,rfl,rfl⟩
    · simp (disch:=first|omega|(simp only[lenT];omega)) only[dF hm,if_neg hm,Bool.true_eq_false,if_false,evSt,↓eA,eB,evU,seval]
      refine (of_ _).then ?_
      simp (disch:=first|omega|(simp only[lenT];omega)) only[evSt,↓eA,eB,evU,seval]
      exact ⟨_,S,hn.fgt _,.imm rfl,Nat.le_refl _,rfl,rfl⟩
theorem why_fare {p : Pls} {t : Tar} {at_ : Int} {l : List Wnt} {ty : Txt} {sale : Int} : whyF p t at_ l ty sale = match fareO t at_ l with
  | none=>2
  | some f=>if endsF f l (citiesF p l) = false then 19 else if (l.any fun w=>decide (w.cl ≠ f.cl)) then 16
    else if Cnd.holds (tripF p l ty sale) ((ruleF t f.rule).getD zRul).w = false then 20 else wayF p t f (citiesF p l):=by
  unfold whyF fareO
  split<;>rfl
theorem am_fare {p : Pls} {t : Tar} {at_ : Int} {l : List Wnt} {ty : Txt} : amountF p t at_ l ty = match fareO t at_ l with
  | none=>(0,2)
  | some f=>if (extraF p t f l).2 ≠ 0 then (0,(extraF p t f l).2) else if (Ml.applyF f.am (extraF p t f l).1).2 ≠ 0 then (0,(Ml.applyF f.am (extraF p t f l).1).2)
    else payF ((ruleF t f.rule).getD zRul) ty (Ml.applyF f.am (extraF p t f l).1).1:=by
  unfold amountF fareO
  split<;>rfl
theorem fareO_ne {t : Tar} {at_ : Int} {l : List Wnt} {f : Fr} (h : fareO t at_ l = some f) : l ≠ [] ∧ 0 ≤ at_ ∧ t.fares[at_.toNat]? = some f:=by
  unfold fareO at h
  split at h
  · cases h
  · rename_i hh
    exact ⟨fun e=>hh (.inl e),by have:=fun e=>hh (.inr e);omega,h⟩
set_option maxHeartbeats 4000000 in
set_option maxRecDepth 10000 in
theorem why_A (p : Pls) (hp : POk2 p) (t : Tar) (tx : List (List V)) (h : TOk t) (at_ : Int) (l : List Wnt) (hl : l.length ≤ 8) (hw : WOk l) (ty : Txt) (sale : Int) (S : Store) :
    CallA Tryz.prog 18 [plV p,.agg (tarV t tx),.int .i64 at_,.sl 8 (l.map wntR),.str ty,.int .i64 sale] S fun v S'=>v = .int .i64 (whyF p t at_ l ty sale) ∧ S' = S:=by
  refine CallA.withNeat Tryz.func18 c5014 fun hn=>?_
  refine CallA.fin Tryz.func18 c5014 (Nat.le_of_ble_eq_true rfl) fun σ hσ=>?_
  have fa:=fun S=>fare_A t tx h at_ l S
  have ci:=fun S=>cities_A p hp.apts l hl S
  have tp:=fun S=>trip_A p hp.apts hp.zns l hl hw ty sale S
  rw[why_fare]
  simp only[tarV,plV] at fa ci tp
  cases hf : fareO t at_ l with
  | none =>
    rw[hf] at fa
    simp only[Option.getD_none,Option.isSome_none,frR] at fa
    simp (disch:=first|omega|(simp only[lenT];omega)) only[a5014,plV,tarV,evSt,↓eA,eB,evU,seval]
    refine (fa _).then ?_
    simp (disch:=first|omega|(simp only[lenT];omega)) only[evSt,↓eA,eB,evU,seval]
    exact ⟨_,S,hn.fgt _,.imm rfl,Nat.le_refl _,rfl,rfl⟩
  | some f =>
    obtain ⟨hne,_,_⟩:=fareO_ne hf
    dsimp only
    have hcl:=cs_len p l hne
    rw[hf] at fa
    have en:=fun S=>ends_A f l (by omega) (citiesF p l) (by intro e;rw[e] at hcl;simp at hcl) (by omega) S
    have an:=fun S=>anyW_A l (fun w=>decide (w.cl ≠ f.cl)) 47 [.cptr (frR f)] S fun x _=>why1_A f x S
    have ru:=fun S=>trule_A t tx (by have:=h.rules;omega) f.rule S
    obtain ⟨hg1,hg2⟩:=rul_get h f.rule
    have aw:=fun S=>alw_A _ hg1 (tripF p l ty sale) S
    have wy:=fun S=>way_A p hp t tx h f (citiesF p l) (by omega) S
    have hal : alwF ((ruleF t f.rule).getD zRul) (tripF p l ty sale) = if Cnd.holds (tripF p l ty sale) ((ruleF t f.rule).getD zRul).w = false then 20 else 0:=by
      unfold alwF
      cases Cnd.holds (tripF p l ty sale) ((ruleF t f.rule).getD zRul).w<;>rfl
    simp only[Option.getD_some,Option.isSome_some,frR,plV,tarV,oRul] at fa en an ru wy
    generalize hR : (ruleF t f.rule).getD zRul = R at ru aw hal hg1 hg2 ⊢
    simp (disch:=first|omega|(simp only[lenT];omega)) only[a5014,plV,tarV,evSt,↓eA,eB,evU,seval]
    refine (fa _).then ?_
    simp (disch:=first|omega|(simp only[lenT];omega)) only[evSt,↓eA,eB,evU,seval]
    refine (ci _).then ?_
    simp (disch:=first|omega|(simp only[lenT];omega)) only[evSt,↓eA,eB,evU,seval]
    refine (en _).then ?_
    cases he : endsF f l (citiesF p l) with
    | false =>
      simp (disch:=first|omega|(simp only[lenT];omega)) only[if_true,evSt,↓eA,eB,evU,seval]
      exact ⟨_,S,hn.fgt _,.imm rfl,Nat.le_refl _,rfl,rfl⟩
    | true =>
    simp (disch:=first|omega|(simp only[lenT];omega)) only[Bool.true_eq_false,if_false,evSt,↓eA,eB,evU,seval]
    refine (an _).then ?_
    cases hcl2 : (l.any fun w=>decide (w.cl ≠ f.cl)) with
    | true =>
      simp (disch:=first|omega|(simp only[lenT];omega)) only[if_true,evSt,↓eA,eB,evU,seval]
      exact ⟨_,S,hn.fgt _,.imm rfl,Nat.le_refl _,rfl,rfl⟩
    | false =>
    simp (disch:=first|omega|(simp only[lenT];omega)) only[Bool.false_eq_true,if_false,evSt,↓eA,eB,evU,seval]
    refine (ru _).then ?_
    obtain ⟨n0,⟨c1,c2,c3,c4,c5,c6⟩,cb,mn,m2,ch,rf,per⟩:=R
    simp only[rulR,Cnd.row,List.cons_append,List.nil_append,trpR] at aw tp ⊢
    simp (disch:=first|omega|(simp only[lenT];omega)) only[evSt,↓eA,eB,evU,seval]
    refine exD.intro (tp _) ?_
    simp (disch:=first|omega|(simp only[lenT];omega)) only[evSt,↓eA,eB,evU,seval]
    refine (aw _).then ?_
    rw[hal]
    cases hh : Cnd.holds (tripF p l ty sale) (Cnd.mk c1 c2 c3 c4 c5 c6) with
    | false =>
      simp (disch:=first|omega|(simp only[lenT];omega)) only[hh,if_true,evSt,↓eA,eB,evU,seval]
      exact ⟨_,S,hn.fgt _,.imm rfl,Nat.le_refl _,rfl,rfl⟩
    | true =>
      simp (disch:=first|omega|(simp only[lenT];omega)) only[hh,Bool.true_eq_false,if_false,evSt,↓eA,eB,evU,seval]
      refine (wy _).then ?_
      simp (disch:=first|omega|(simp only[lenT];omega)) only[evSt,↓eA,eB,evU,seval]
      exact ⟨_,S,hn.fgt _,.imm rfl,Nat.le_refl _,rfl,rfl⟩
def milF (t : Tar) (f : Fr) : Int:=if f.rout = 0 then 0 else ((routF t f.rout).getD zRou).mi
theorem miles_A (t : Tar) (tx : List (List V)) (h : TOk t) (f : Fr) (S : Store) : CallA Tryz.prog 40 [.agg (tarV t tx),.agg (frR f)] S fun v S'=>v = .int .i64 (milF t f) ∧ S' = S:=by
  refine CallA.withNeat Tryz.func40 c5021 fun hn=>?_
  refine CallA.fin Tryz.func40 c5021 (Nat.le_of_ble_eq_true rfl) fun σ hσ=>?_
  have tr:=fun S=>rrout_A t tx (by have:=h.routs;omega) f.rout S
  unfold milF
  generalize hr : (routF t f.rout).getD zRou = r at tr
  simp only[tarV,oRou,hr,rouR] at tr
  by_cases h0 : f.rout = 0
  · simp (disch:=first|omega|(simp only[lenT];omega)) only[a5021,tarV,frR,evSt,↓eA,eB,evU,seval]
    refine (tr _).then ?_
    simp (disch:=first|omega|(simp only[lenT];omega)) only[dT h0,if_pos h0,evSt,↓eA,eB,evU,seval]
    exact ⟨_,S,hn.fgt _,.imm rfl,Nat.le_refl _,rfl,rfl⟩
  · simp (disch:=first|omega|(simp only[lenT];omega)) only[a5021,tarV,frR,evSt,↓eA,eB,evU,seval]
    refine (tr _).then ?_
    simp (disch:=first|omega|(simp only[lenT];omega)) only[dF h0,if_neg h0,evSt,↓eA,eB,evU,seval]
    exact ⟨_,S,hn.fgt _,.imm rfl,Nat.le_refl _,rfl,rfl⟩
theorem way_mil (p : Pls) (t : Tar) (f : Fr) (cs : List Txt) : wayF p t f cs = if f.rout ≠ 0 ∧ allowsF ((routF t f.rout).getD zRou) cs = false then 21 else if 0 < milF t f then (Ml.ofF p cs (milF t f)).2 else 0:=by
  unfold wayF milF
  by_cases h0 : f.rout = 0
  · simp [h0]
  · rw[if_neg h0,if_neg h0]
    cases ha : allowsF ((routF t f.rout).getD zRou) cs with
    | false=>rw[if_pos rfl,if_pos ⟨h0,rfl⟩]
    | true =>
      by_cases hm : ((routF t f.rout).getD zRou).mi ≤ 0
      · have hm2 : ¬ 0 < ((routF t f.rout).getD zRou).mi:=by omega
        simp only[Bool.true_eq_false,and_false,if_false,if_pos hm,if_neg hm2]
      · have hm2 : 0 < ((routF t f.rout).getD zRou).mi:=by omega
        simp only[Bool.true_eq_false,and_false,if_false,if_neg hm,if_pos hm2]
theorem ext_mil (p : Pls) (t : Tar) (f : Fr) (l : List Wnt) : extraF p t f l = if 0 < milF t f then Ml.ofF p (citiesF p l) (milF t f) else (0,0):=by
  unfold extraF milF
  by_cases h0 : f.rout = 0
  · simp [h0]
  · rw[if_neg h0]
    by_cases hm : ((routF t f.rout).getD zRou).mi ≤ 0
    · rw[if_pos (.inr hm),if_neg (by omega)]
    · rw[if_neg (by rintro (e | e);exact h0 e;exact hm e),if_pos (by omega)]
set_option maxHeartbeats 8000000 in
set_option maxRecDepth 20000 in
theorem rwhy_A (p : Pls) (hp : POk2 p) (t : Tar) (tx : List (List V)) (h : TOk t) (at_ : Int) (l : List Wnt) (hl : l.length ≤ 8) (hw : WOk l) (ty : Txt) (sale : Int) (S : Store) :
    CallA Tryz.prog 19 [plV p,.agg (tarV t tx),.int .i64 at_,.sl 8 (l.map wntR),.str ty,.int .i64 sale] S fun v S'=>v = .int .i64 (whyF p t at_ l ty sale) ∧ S' = S:=by
  refine CallA.withNeat Tryz.func19 c5022 fun hn=>?_
  refine CallA.fin Tryz.func19 c5022 (Nat.le_of_ble_eq_true rfl) fun σ hσ=>?_
  have ci:=fun S=>rcities_A p hp.apts l hl S
  have tp:=fun S=>rtrip_A p hp.apts hp.zns l hl hw ty sale S
  rw[why_fare]
  simp only[plV] at ci tp
  by_cases h1 : ((l.length : Nat) : Int) = 0
  · have e : fareO t at_ l = none:=if_pos (.inl (List.length_eq_zero_iff.1 (by omega)))
    rw[e]
    simp (disch:=first|omega|(simp only[lenT];omega)) only[a5022,plV,tarV,dT h1,evSt,↓eA,eB,evU,seval]
    exact ⟨_,S,hn.self,.imm rfl,Nat.le_refl _,rfl,rfl⟩
  by_cases h2 : at_ < 0
  · have e : fareO t at_ l = none:=if_pos (.inr h2)
    rw[e]
    simp (disch:=first|omega|(simp only[lenT];omega)) only[a5022,plV,tarV,dF h1,dT h2,evSt,↓eA,eB,evU,seval]
    exact ⟨_,S,hn.self,.imm rfl,Nat.le_refl _,rfl,rfl⟩
  have e : fareO t at_ l = t.fares[at_.toNat]?:=if_neg (by
    rintro (h | h)
    · rw[h] at h1;exact h1 rfl
    · exact h2 h)
  rw[e]
  have hne : l ≠ []:=fun h=>by rw[h] at h1;exact h1 rfl
  clear e
  obtain ⟨n,rfl⟩ : ∃ n : Nat,at_ = (n : Nat):=⟨at_.toNat,by omega⟩
  rw[Int.toNat_natCast]
  cases hc : t.fares[n]? with
  | none =>
    have hge : t.fares.length ≤ n:=List.getElem?_eq_none_iff.1 hc
    have h3 : ((t.fares.length : Nat) : Int) ≤ (n : Nat):=by omega
    simp (disch:=first|omega|(simp only[lenT];omega)) only[a5022,plV,tarV,dF h1,dF h2,dT h3,evSt,↓eA,eB,evU,seval]
    exact ⟨_,S,hn.self,.imm rfl,Nat.le_refl _,rfl,rfl⟩
  | some f =>
  dsimp only
  have hltn:=(List.getElem?_eq_some_iff.1 hc).1
  have h3 : ¬ ((t.fares.length : Nat) : Int) ≤ (n : Nat):=by omega
  have hcl:=cs_len p l hne
  have ru:=fun S=>rrule_A t tx (by have:=h.rules;omega) f.rule S
  have ro:=fun S=>rrout_A t tx (by have:=h.routs;omega) f.rout S
  have mi:=fun S=>miles_A t tx h f S
  obtain ⟨hg1,hg2⟩:=rul_get h f.rule
  have aw:=fun S=>ralw_A _ hg1 (tripF p l ty sale) S
  have al:=fun S=>rallows_A ((routF t f.rout).getD zRou) (citiesF p l) (by omega) S
  have of_:=fun S=>rof2_A p (citiesF p l) (milF t f) S hp.apts hp.dsts (by omega)
  rw[way_mil]
  have hal : alwF ((ruleF t f.rule).getD zRul) (tripF p l ty sale) = if Cnd.holds (tripF p l ty sale) ((ruleF t f.rule).getD zRul).w = false then 20 else 0:=by
    unfold alwF
    cases Cnd.holds (tripF p l ty sale) ((ruleF t f.rule).getD zRul).w<;>rfl
  simp only[frR,plV,tarV,oRul,oRou] at ru ro mi of_
  generalize hR : (ruleF t f.rule).getD zRul = R at ru aw hal hg1 hg2 ⊢
  generalize hRo : (routF t f.rout).getD zRou = Ro at ro al ⊢
  generalize hM : milF t f = M at mi of_ ⊢
  generalize hcs : citiesF p l = cs at ci al of_ hcl ⊢
  have hpos : 0 < cs.length:=by omega
  have ha : cs[0]? = some cs[0]:=List.getElem?_eq_getElem hpos
  have hb : cs[cs.length - 1]? = some cs[cs.length - 1]:=List.getElem?_eq_getElem (by omega)
  generalize cs[0] = ca at ha
  generalize cs[cs.length - 1] = cb at hb
  have hm1 : ((cs.length : Nat) : Int) - 1 = ((cs.length - 1 : Nat) : Int):=by omega
  have hen : endsF f l cs = ((l.all fun w=>decide (w.s.c = f.c)) && (decide (ca = f.f) && decide (cb = f.t))):=by
    unfold endsF
    rw[List.head?_eq_getElem?,ha,List.getLast?_eq_getElem?,hb]
    simp only[Option.some.injEq]
  have hany : (l.any fun w=>decide (w.cl ≠ f.cl)) = !(l.all fun w=>decide (w.cl = f.cl)):=by
    rw[List.not_all_eq_any_not]
    congr 1
    funext w
    rw[decide_not]
  rw[hen,hany]
  simp (disch:=first|omega|(simp only[lenT];omega)) only[a5022,plV,tarV,dF h1,dF h2,dF h3,hc,frR,evSt,↓eA,eB,evU,seval]
  refine (ci _).then ?_
  simp (disch:=first|omega|(simp only[lenT];omega)) only[evSt,↓eA,eB,evU,seval]
  have tk : ∀ (k : Nat) (y : Wnt),l[k]? = some y → ((l.take (k + 1)).all fun w=>decide (w.cl = f.cl)) = (((l.take k).all fun w=>decide (w.cl = f.cl)) && decide (y.cl = f.cl)):=fun k y hy=>by
    rw[take_at hy,List.all_append,List.all_cons,List.all_nil,Bool.and_true]
  refine loopF (ι:=Nat) (fun k=>[(3,.sl 8 (l.map wntR)),(4,.str ty),(5,.int .i64 sale),(6,.cptr [.sl 5 (p.1.map aptR),.sl 3 (p.2.map dstR)]),(7,.cptr [.sl 9 (t.fares.map frR),.sl 15 (t.rules.map rulR),.sl 3 (t.routs.map rouR),.sl 7 tx]),(13,.cptr [.str f.c,.str f.f,.str f.t,.str f.bas,.str f.cl,.bool f.rnd,.int .i64 f.am,.int .i64 f.rule,.int .i64 f.rout]),(14,.sl 1 (cs.map txR)),(15,.bool ((l.take k).all fun w=>decide (w.cl = f.cl))),(16,.int .i64 (k : Nat))]) (fun _=>S) (fun k=>k ≤ l.length ∧ (l.all fun w=>decide (w.s.c = f.c)) = ((l.drop k).all fun w=>decide (w.s.c = f.c))) (fun k=>l.length - k) (fun i hi=>by rw[hσ];exact Nat.le_refl _) 0 ⟨Nat.zero_le _,rfl⟩ (back_under (hn.fgt _) (by simp only[List.all_nil,↓eA,eB,evU,seval];try rfl) (by simp [V.under,V.allUnder])) ?_
  rintro k ⟨hk,hin⟩
  cases hck : l[k]? with
  | some y =>
    have hlt':=(List.getElem?_eq_some_iff.1 hck).1
    have hlt : (k : Int) < l.length:=by omega
    have hk1 : (k : Int) + 1 = ((k + 1 : Nat) : Int):=by omega
    have tky:=tk k y hck
    rw[drop_at hck,List.all_cons] at hin
    cases h4 : decide (y.s.c = f.c) with
    | false =>
      rw[h4,Bool.false_and] at hin
      simp (disch:=first|omega|(simp only[lenT];omega)) only[dT hlt,hck,h4,wntR,sgR,evSt,↓eA,eB,evU,seval]
      exact ⟨_,S,hn.self,.imm rfl,Nat.le_refl _,by rw[hin,Bool.false_and,if_pos rfl],rfl⟩
    | true =>
      rw[h4,Bool.true_and] at hin
      cases h5 : ((l.take k).all fun w=>decide (w.cl = f.cl))<;>cases h6 : decide (y.cl = f.cl)<;>rw[h5,h6] at tky<;>simp (disch:=first|omega|(simp only[lenT];omega)) only[dT hlt,hck,h4,h6,hk1,wrap_i64,wntR,sgR,evSt,↓eA,eB,evU,seval]
      all_goals exact ⟨k + 1,⟨by omega,hin⟩,by omega,.inl ⟨by rw[tky];simp only[Bool.and_self,Bool.and_true,Bool.true_and,Bool.and_false,↓eA,eB,evU,seval];try rfl,rfl⟩⟩
  | none =>
  have hge : l.length ≤ k:=List.getElem?_eq_none_iff.1 hck
  have hlt : ¬ ((k : Int) < l.length):=by omega
  rw[List.drop_eq_nil_of_le hge,List.all_nil] at hin
  rw[List.take_of_length_le hge,hin,Bool.true_and]
  cases hca : decide (ca = f.f) with
  | false =>
    simp (disch:=first|omega|(simp only[lenT];omega)) only[dF hlt,ha,hb,hca,hm1,wrap_i64,txR,evSt,↓eA,eB,evU,seval]
    exact ⟨_,S,hn.self,.imm rfl,Nat.le_refl _,by simp only[Bool.false_and,if_true],rfl⟩
  | true =>
  cases hcb : decide (cb = f.t) with
  | false =>
    simp (disch:=first|omega|(simp only[lenT];omega)) only[dF hlt,ha,hb,hca,hcb,hm1,wrap_i64,txR,evSt,↓eA,eB,evU,seval]
    exact ⟨_,S,hn.self,.imm rfl,Nat.le_refl _,by simp only[Bool.and_false,if_true],rfl⟩
  | true =>
  cases hcc : (l.all fun w=>decide (w.cl = f.cl)) with
  | false =>
    simp (disch:=first|omega|(simp only[lenT];omega)) only[dF hlt,ha,hb,hca,hcb,hm1,wrap_i64,txR,evSt,↓eA,eB,evU,seval]
    exact ⟨_,S,hn.self,.imm rfl,Nat.le_refl _,by simp only[Bool.and_self,Bool.true_eq_false,Bool.not_false,if_true,if_false],rfl⟩
  | true =>
  simp (disch:=first|omega|(simp only[lenT];omega)) only[dF hlt,ha,hb,hca,hcb,hm1,wrap_i64,txR,Bool.and_self,Bool.true_eq_false,Bool.false_eq_true,if_false,evSt,↓eA,eB,evU,seval]
  refine (ru _).then ?_
  obtain ⟨n0,⟨c1,c2,c3,c4,c5,c6⟩,cb0,mn,m2,ch,rf,per⟩:=R
  simp only[rulR,Cnd.row,List.cons_append,List.nil_append,trpR] at aw tp ⊢
  simp (disch:=first|omega|(simp only[lenT];omega)) only[evSt,↓eA,eB,evU,seval]
  refine exD.intro (tp _) ?_
  simp (disch:=first|omega|(simp only[lenT];omega)) only[evSt,↓eA,eB,evU,seval]
  refine (aw _).then ?_
  rw[hal]
  cases hh : Cnd.holds (tripF p l ty sale) (Cnd.mk c1 c2 c3 c4 c5 c6) with
  | false =>
    simp (disch:=first|omega|(simp only[lenT];omega)) only[hh,if_true,evSt,↓eA,eB,evU,seval]
    exact ⟨_,S,hn.fgt _,.imm rfl,Nat.le_refl _,rfl,rfl⟩
  | true =>
  simp (disch:=first|omega|(simp only[lenT];omega)) only[hh,Bool.true_eq_false,if_false,evSt,↓eA,eB,evU,seval]
  refine (ro _).then ?_
  simp only[rouR] at al ⊢
  have key : ∀ T : Store,CallA Tryz.prog 40 [.agg [.sl 9 (t.fares.map frR),.sl 15 (t.rules.map rulR),.sl 3 (t.routs.map rouR),.sl 7 tx],.agg [.str f.c,.str f.f,.str f.t,.str f.bas,.str f.cl,.bool f.rnd,.int .i64 f.am,.int .i64 f.rule,.int .i64 f.rout]] T fun v S'=>v = .int .i64 M ∧ S' = T:=mi
  by_cases h0 : f.rout = 0
  case' pos =>
    rw[if_neg (fun hh=>hh.1 h0)]
    simp (disch:=first|omega|(simp only[lenT];omega)) only[dT h0,evSt,↓eA,eB,evU,seval]
  case' neg =>
    simp (disch:=first|omega|(simp only[lenT];omega)) only[dF h0,evSt,↓eA,eB,evU,seval]
    refine (al _).then ?_
    cases hal2 : allowsF Ro cs
    case' false =>
      rw[if_pos ⟨h0,rfl⟩]
      simp (disch:=first|omega|(simp only[lenT];omega)) only[evSt,↓eA,eB,evU,seval]
      refine ⟨_,S,hn.fgt _,.imm rfl,Nat.le_refl _,rfl,rfl⟩
    case' true =>
      rw[if_neg (fun hh=>by cases hh.2)]
      simp (disch:=first|omega|(simp only[lenT];omega)) only[evSt,↓eA,eB,evU,seval]
  all_goals
    refine (key _).then ?_
    by_cases hM : 0 < M
    · rw[if_pos hM]
      simp (disch:=first|omega|(simp only[lenT];omega)) only[dT hM,evSt,↓eA,eB,evU,seval]
      refine exD.intro (key _) ?_
      simp (disch:=first|omega|(simp only[lenT];omega)) only[evSt,↓eA,eB,evU,seval]
      refine (of_ _).then ?_
      simp (disch:=first|omega|(simp only[lenT];omega)) only[evSt,↓eA,eB,evU,seval]
      exact ⟨_,S,hn.fgt _,.imm rfl,Nat.le_refl _,rfl,rfl⟩
    · rw[if_neg hM]
      simp (disch:=first|omega|(simp only[lenT];omega)) only[dF hM,evSt,↓eA,eB,evU,seval]
      exact ⟨_,S,hn.fgt _,.imm rfl,Nat.le_refl _,rfl,rfl⟩
end Go.Proofs.YtanmnoipikdplaaGreat
