/- Component: rules and routings found, routings that allow, what is paid. -/
import Derived.Test.YtanmnoipikdplaaGreatWCn1
import Derived.Test.YtanmnoipikdplaaGreatWCmp3
namespace Go.Proofs.YtanmnoipikdplaaGreat
open Go Go.AL
set_option linter.unusedSectionVars false
variable [Go.AL.Mode]
set_option linter.unusedSimpArgs false
set_option linter.unusedVariables false
def FrzAll (S S1 : Store) : List V → List V → Prop
  | [],[]=>True
  | v :: vs,w :: ws=>Frz S S1 v w ∧ FrzAll S S1 vs ws
  | _,_=>False
theorem FrzAll.get {S S1 : Store} : ∀ {vs ws : List V},FrzAll S S1 vs ws → ws.length = vs.length ∧ ∀ (j : Nat) (v : V),ws[j]? = some v → ∀ x,vs[j]? = some x → Frz S S1 x v
  | [],[],_=>⟨rfl,fun j v h=>by simp at h⟩
  | [],_ :: _,h=>h.elim
  | _ :: _,[],h=>h.elim
  | a :: vs,b :: ws,h=>by
    obtain ⟨e,k⟩:=FrzAll.get h.2
    refine ⟨by simp [e],fun j v hv x hx=>?_⟩
    cases j with
    | zero=>simp only[List.getElem?_cons_zero,Option.some.injEq] at hv hx;subst hv;subst hx;exact h.1
    | succ j=>simp only[List.getElem?_cons_succ] at hv hx;exact k j v hv x hx
theorem frz_agg {S S1 : Store} {vs ws : List V} (h : FrzAll S S1 vs ws) : Frz S S1 (.agg vs) (.agg ws):=.agg h.get.1 h.get.2
theorem fat {α : Type} {l : List α} {q : α → Bool} {k : Nat} {a : α} (h : l.find? q = (l.drop k).find? q) (ha : l[k]? = some a) (hq : q a = true) : l.find? q = some a:=by
  rw[h,drop_at ha,List.find?_cons_of_pos hq]
theorem fnx {α : Type} {l : List α} {q : α → Bool} {k : Nat} {a : α} (h : l.find? q = (l.drop k).find? q) (ha : l[k]? = some a) (hq : q a = false) : l.find? q = (l.drop (k + 1)).find? q:=by
  rw[h,drop_at ha,List.find?_cons_of_neg (by simp [hq])]
theorem fen {α : Type} {l : List α} {q : α → Bool} {k : Nat} (h : l.find? q = (l.drop k).find? q) (ha : l[k]? = none) : l.find? q = none:=by
  rw[h,List.drop_eq_nil_of_le (List.getElem?_eq_none_iff.1 ha)];rfl
def tarV (t : Tar) (tx : List (List V)) : List V:=[.sl 9 (t.fares.map frR),.sl 15 (t.rules.map rulR),.sl 3 (t.routs.map rouR),.sl 7 tx]
def oRul (o : Option Rul) : V:=.tup [.agg (rulR (o.getD zRul)),.bool o.isSome]
def oRou (o : Option Rou) : V:=.tup [.agg (rouR (o.getD zRou)),.bool o.isSome]
theorem under_le {n m : Nat} (h : n ≤ m) {v : V} (hv : v.under n = true) : v.under m = true:=by
  have:=V.allUnder_le h (r:=[v]) (by simp [V.allUnder,hv])
  simpa [V.allUnder] using this
theorem neat_add {S L : Store} (h : Neat S) (hl : ∀ o ∈ L,objN (S.length + L.length) o) : Neat (S ++ L):=by
  rw[neat_iff] at h ⊢
  intro o ho
  rw[List.length_append]
  rcases List.mem_append.1 ho with ho | ho
  · have:=h o ho
    unfold objN at this ⊢
    split at this
    · trivial
    · exact fun r hr=>⟨(this r hr).1,V.allUnder_le (Nat.le_add_right _ _) (this r hr).2⟩
    · refine ⟨fun p hp=>?_,fun of p hp=>?_⟩
      · obtain ⟨a,b,c⟩:=this.1 p hp
        exact ⟨under_le (Nat.le_add_right _ _) a,under_le (Nat.le_add_right _ _) b,c⟩
      · obtain ⟨a,b⟩:=this.2 of p hp
        exact ⟨under_le (Nat.le_add_right _ _) a,under_le (Nat.le_add_right _ _) b⟩
  · exact hl o ho
theorem neat_fgt {S L T : Store} (h : Neat (S ++ L)) : Fgt (S ++ (L ++ T)) (S ++ L):=by rw[← List.append_assoc];exact h.fgt T
theorem trule_A (t : Tar) (tx : List (List V)) (hl : t.rules.length ≤ 1000000) (n : Int) (S : Store) : CallA Tryz.prog 38 [.agg (tarV t tx),.int .i64 n] S fun r S'=>r = oRul (ruleF t n) ∧ S' = S:=by
  refine CallA.withNeat Tryz.func38 c5044 fun hn=>?_
  refine CallA.fin Tryz.func38 c5044 (Nat.le_of_ble_eq_true rfl) fun σ hσ=>?_
  simp (disch:=first|omega|(simp only[lenT];omega)) only[a5044,tarV,evSt,↓eA,eB,evU,seval]
  have hnb : Neat (S ++ [⟨0,some (.arr 77 15 [[.int .i64 0,.int .i64 0,.nilSl,.int .i64 0,.int .i64 0,.int .i64 0,.int .i64 0,.int .i64 0,.nilSl,.nilSl,.int .i64 0,.int .i64 0,.int .i64 0,.int .i64 0,.nilSl]])⟩]):=neat_add hn (by intro o ho;simp only[List.mem_singleton] at ho;subst ho;intro r hr;simp only[List.mem_singleton] at hr;subst hr;exact ⟨rfl,rfl⟩)
  refine loopF (ι:=Nat) (fun k=>[(1,.int .i64 n),(2,.cptr (tarV t tx)),(4,.ptr S.length 0 0 0),(9,.sl 15 (t.rules.map rulR)),(10,.int .i64 t.rules.length),(11,.int .i64 (k : Nat))]) (fun _=>S ++ [⟨0,some (.arr 77 15 [[.int .i64 0,.int .i64 0,.nilSl,.int .i64 0,.int .i64 0,.int .i64 0,.int .i64 0,.int .i64 0,.nilSl,.nilSl,.int .i64 0,.int .i64 0,.int .i64 0,.int .i64 0,.nilSl]])⟩]) (fun k=>k ≤ t.rules.length ∧ t.rules.find? (fun a=>decide (a.n = n)) = (t.rules.drop k).find? (fun a=>decide (a.n = n))) (fun k=>t.rules.length - k) (fun i hi=>by rw[hσ];simp) 0 ⟨Nat.zero_le _,rfl⟩ (.inl ⟨?_,rfl⟩) ?_
  · simp only[tarV,↓eA,eB,evU,seval]
    try rfl
  rintro k ⟨hk,hinv⟩
  cases hc : t.rules[k]? with
  | none =>
    have hge : t.rules.length ≤ k:=List.getElem?_eq_none_iff.1 hc
    have hlt : ¬ ((k : Int) < t.rules.length):=by omega
    rw[show ruleF t n = none from fen hinv hc]
    simp (disch:=first|omega|(simp only[lenT];omega)) only[tarV,dF hlt,evSt,↓eA,eB,evU,seval]
    exact ⟨.tup [.agg (rulR zRul),.bool false],S,hn.fgt _,.tup2 (frz_agg ⟨.imm rfl,.imm rfl,.nil,.imm rfl,.imm rfl,.imm rfl,.imm rfl,.imm rfl,.nil,.nil,.imm rfl,.imm rfl,.imm rfl,.imm rfl,.nil,trivial⟩) (.imm rfl),Nat.le_refl _,rfl,rfl⟩
  | some a =>
    have hlt':=(List.getElem?_eq_some_iff.1 hc).1
    have hlt : (k : Int) < t.rules.length:=by omega
    have hk1 : (k : Int) + 1 = ((k + 1 : Nat) : Int):=by omega
    by_cases h : a.n = n
    · have he : decide (a.n = n) = true:=by simp [h]
      rw[show ruleF t n = some a from fat hinv hc he]
      obtain ⟨n0,⟨c1,c2,c3,c4,c5,c6⟩,cb,mn,mx,ch,rf,per⟩:=a
      simp only at h he
      simp (disch:=first|omega|(simp only[lenT];omega)) only[tarV,rulR,Cnd.row,hc,dT hlt,he,evSt,↓eA,eB,evU,seval]
      exact ⟨_,S,hn.fgt _,.imm rfl,Nat.le_refl _,rfl,rfl⟩
    · have h0:=h
      have hfn:=fnx hinv hc (by simp [h])
      obtain ⟨n0,⟨c1,c2,c3,c4,c5,c6⟩,cb,mn,mx,ch,rf,per⟩:=a
      simp only at h
      simp (disch:=first|omega|(simp only[lenT];omega)) only[tarV,rulR,Cnd.row,wrap_i64,hk1,hc,dT hlt,dF h,evSt,↓eA,eB,evU,seval]
      exact ⟨k + 1,⟨by omega,hfn⟩,by omega,back_under (neat_fgt hnb) (by simp only[tarV,↓eA,eB,evU,seval];try rfl) (by simp [V.under,V.allUnder,tarV])⟩
theorem rrule_A (t : Tar) (tx : List (List V)) (hl : t.rules.length ≤ 1000000) (n : Int) (S : Store) : CallA Tryz.prog 43 [.agg (tarV t tx),.int .i64 n] S fun r S'=>r = oRul (ruleF t n) ∧ S' = S:=by
  refine CallA.withNeat Tryz.func43 c5046 fun hn=>?_
  refine CallA.fin Tryz.func43 c5046 (Nat.le_of_ble_eq_true rfl) fun σ hσ=>?_
  simp (disch:=first|omega|(simp only[lenT];omega)) only[a5046,tarV,evSt,↓eA,eB,evU,seval]
  have hnb : Neat (S ++ [⟨0,some (.arr 77 15 [[.int .i64 0,.int .i64 0,.nilSl,.int .i64 0,.int .i64 0,.int .i64 0,.int .i64 0,.int .i64 0,.nilSl,.nilSl,.int .i64 0,.int .i64 0,.int .i64 0,.int .i64 0,.nilSl]])⟩]):=neat_add hn (by intro o ho;simp only[List.mem_singleton] at ho;subst ho;intro r hr;simp only[List.mem_singleton] at hr;subst hr;exact ⟨rfl,rfl⟩)
  refine loopF (ι:=Nat) (fun k=>[(1,.int .i64 n),(2,.cptr (tarV t tx)),(4,.ptr S.length 0 0 0),(6,.int .i64 (k : Nat))]) (fun _=>S ++ [⟨0,some (.arr 77 15 [[.int .i64 0,.int .i64 0,.nilSl,.int .i64 0,.int .i64 0,.int .i64 0,.int .i64 0,.int .i64 0,.nilSl,.nilSl,.int .i64 0,.int .i64 0,.int .i64 0,.int .i64 0,.nilSl]])⟩]) (fun k=>k ≤ t.rules.length ∧ t.rules.find? (fun a=>decide (a.n = n)) = (t.rules.drop k).find? (fun a=>decide (a.n = n))) (fun k=>t.rules.length - k) (fun i hi=>by rw[hσ];simp) 0 ⟨Nat.zero_le _,rfl⟩ (.inl ⟨?_,rfl⟩) ?_
  · simp only[tarV,↓eA,eB,evU,seval]
    try rfl
  rintro k ⟨hk,hinv⟩
  cases hc : t.rules[k]? with
  | none =>
    have hge : t.rules.length ≤ k:=List.getElem?_eq_none_iff.1 hc
    have hlt : ¬ ((k : Int) < t.rules.length):=by omega
    rw[show ruleF t n = none from fen hinv hc]
    simp (disch:=first|omega|(simp only[lenT];omega)) only[tarV,dF hlt,evSt,↓eA,eB,evU,seval]
    exact ⟨.tup [.agg (rulR zRul),.bool false],S,hn.fgt _,.tup2 (frz_agg ⟨.imm rfl,.imm rfl,.nil,.imm rfl,.imm rfl,.imm rfl,.imm rfl,.imm rfl,.nil,.nil,.imm rfl,.imm rfl,.imm rfl,.imm rfl,.nil,trivial⟩) (.imm rfl),Nat.le_refl _,rfl,rfl⟩
  | some a =>
    have hlt':=(List.getElem?_eq_some_iff.1 hc).1
    have hlt : (k : Int) < t.rules.length:=by omega
    have hk1 : (k : Int) + 1 = ((k + 1 : Nat) : Int):=by omega
    by_cases h : a.n = n
    · have he : decide (a.n = n) = true:=by simp [h]
      rw[show ruleF t n = some a from fat hinv hc he]
      obtain ⟨n0,⟨c1,c2,c3,c4,c5,c6⟩,cb,mn,mx,ch,rf,per⟩:=a
      simp only at h he
      simp (disch:=first|omega|(simp only[lenT];omega)) only[tarV,rulR,Cnd.row,hc,dT hlt,he,evSt,↓eA,eB,evU,seval]
      exact ⟨_,S,hn.fgt _,.imm rfl,Nat.le_refl _,rfl,rfl⟩
    · have h0:=h
      have hfn:=fnx hinv hc (by simp [h])
      obtain ⟨n0,⟨c1,c2,c3,c4,c5,c6⟩,cb,mn,mx,ch,rf,per⟩:=a
      simp only at h
      simp (disch:=first|omega|(simp only[lenT];omega)) only[tarV,rulR,Cnd.row,wrap_i64,hk1,hc,dT hlt,dF h,evSt,↓eA,eB,evU,seval]
      exact ⟨k + 1,⟨by omega,hfn⟩,by omega,.inl ⟨by simp only[tarV,↓eA,eB,evU,seval];try rfl,rfl⟩⟩
theorem trout_A (t : Tar) (tx : List (List V)) (hl : t.routs.length ≤ 1000000) (n : Int) (S : Store) : CallA Tryz.prog 35 [.agg (tarV t tx),.int .i64 n] S fun r S'=>r = oRou (routF t n) ∧ S' = S:=by
  refine CallA.withNeat Tryz.func35 c5045 fun hn=>?_
  refine CallA.fin Tryz.func35 c5045 (Nat.le_of_ble_eq_true rfl) fun σ hσ=>?_
  simp (disch:=first|omega|(simp only[lenT];omega)) only[a5045,tarV,evSt,↓eA,eB,evU,seval]
  have hnb : Neat (S ++ [⟨0,some (.arr 89 3 [[.int .i64 0,.nilSl,.int .i64 0]])⟩]):=neat_add hn (by intro o ho;simp only[List.mem_singleton] at ho;subst ho;intro r hr;simp only[List.mem_singleton] at hr;subst hr;exact ⟨rfl,rfl⟩)
  refine loopF (ι:=Nat) (fun k=>[(1,.int .i64 n),(2,.cptr (tarV t tx)),(4,.ptr S.length 0 0 0),(9,.sl 3 (t.routs.map rouR)),(10,.int .i64 t.routs.length),(11,.int .i64 (k : Nat))]) (fun _=>S ++ [⟨0,some (.arr 89 3 [[.int .i64 0,.nilSl,.int .i64 0]])⟩]) (fun k=>k ≤ t.routs.length ∧ t.routs.find? (fun a=>decide (a.n = n)) = (t.routs.drop k).find? (fun a=>decide (a.n = n))) (fun k=>t.routs.length - k) (fun i hi=>by rw[hσ];simp) 0 ⟨Nat.zero_le _,rfl⟩ (.inl ⟨?_,rfl⟩) ?_
  · simp only[tarV,↓eA,eB,evU,seval]
    try rfl
  rintro k ⟨hk,hinv⟩
  cases hc : t.routs[k]? with
  | none =>
    have hge : t.routs.length ≤ k:=List.getElem?_eq_none_iff.1 hc
    have hlt : ¬ ((k : Int) < t.routs.length):=by omega
    rw[show routF t n = none from fen hinv hc]
    simp (disch:=first|omega|(simp only[lenT];omega)) only[tarV,dF hlt,evSt,↓eA,eB,evU,seval]
    exact ⟨.tup [.agg (rouR zRou),.bool false],S,hn.fgt _,.tup2 (frz_agg ⟨.imm rfl,.nil,.imm rfl,trivial⟩) (.imm rfl),Nat.le_refl _,rfl,rfl⟩
  | some a =>
    have hlt':=(List.getElem?_eq_some_iff.1 hc).1
    have hlt : (k : Int) < t.routs.length:=by omega
    have hk1 : (k : Int) + 1 = ((k + 1 : Nat) : Int):=by omega
    by_cases h : a.n = n
    · have he : decide (a.n = n) = true:=by simp [h]
      rw[show routF t n = some a from fat hinv hc he]
      obtain ⟨n0,lk,mi⟩:=a
      simp only at h he
      simp (disch:=first|omega|(simp only[lenT];omega)) only[tarV,rouR,hc,dT hlt,he,evSt,↓eA,eB,evU,seval]
      exact ⟨_,S,hn.fgt _,.imm rfl,Nat.le_refl _,rfl,rfl⟩
    · have h0:=h
      have hfn:=fnx hinv hc (by simp [h])
      obtain ⟨n0,lk,mi⟩:=a
      simp only at h
      simp (disch:=first|omega|(simp only[lenT];omega)) only[tarV,rouR,wrap_i64,hk1,hc,dT hlt,dF h,evSt,↓eA,eB,evU,seval]
      exact ⟨k + 1,⟨by omega,hfn⟩,by omega,back_under (neat_fgt hnb) (by simp only[tarV,↓eA,eB,evU,seval];try rfl) (by simp [V.under,V.allUnder,tarV])⟩
theorem rrout_A (t : Tar) (tx : List (List V)) (hl : t.routs.length ≤ 1000000) (n : Int) (S : Store) : CallA Tryz.prog 51 [.agg (tarV t tx),.int .i64 n] S fun r S'=>r = oRou (routF t n) ∧ S' = S:=by
  refine CallA.withNeat Tryz.func51 c5047 fun hn=>?_
  refine CallA.fin Tryz.func51 c5047 (Nat.le_of_ble_eq_true rfl) fun σ hσ=>?_
  simp (disch:=first|omega|(simp only[lenT];omega)) only[a5047,tarV,evSt,↓eA,eB,evU,seval]
  have hnb : Neat (S ++ [⟨0,some (.arr 89 3 [[.int .i64 0,.nilSl,.int .i64 0]])⟩]):=neat_add hn (by intro o ho;simp only[List.mem_singleton] at ho;subst ho;intro r hr;simp only[List.mem_singleton] at hr;subst hr;exact ⟨rfl,rfl⟩)
  refine loopF (ι:=Nat) (fun k=>[(1,.int .i64 n),(2,.cptr (tarV t tx)),(4,.ptr S.length 0 0 0),(6,.int .i64 (k : Nat))]) (fun _=>S ++ [⟨0,some (.arr 89 3 [[.int .i64 0,.nilSl,.int .i64 0]])⟩]) (fun k=>k ≤ t.routs.length ∧ t.routs.find? (fun a=>decide (a.n = n)) = (t.routs.drop k).find? (fun a=>decide (a.n = n))) (fun k=>t.routs.length - k) (fun i hi=>by rw[hσ];simp) 0 ⟨Nat.zero_le _,rfl⟩ (.inl ⟨?_,rfl⟩) ?_
  · simp only[tarV,↓eA,eB,evU,seval]
    try rfl
  rintro k ⟨hk,hinv⟩
  cases hc : t.routs[k]? with
  | none =>
    have hge : t.routs.length ≤ k:=List.getElem?_eq_none_iff.1 hc
    have hlt : ¬ ((k : Int) < t.routs.length):=by omega
    rw[show routF t n = none from fen hinv hc]
    simp (disch:=first|omega|(simp only[lenT];omega)) only[tarV,dF hlt,evSt,↓eA,eB,evU,seval]
    exact ⟨.tup [.agg (rouR zRou),.bool false],S,hn.fgt _,.tup2 (frz_agg ⟨.imm rfl,.nil,.imm rfl,trivial⟩) (.imm rfl),Nat.le_refl _,rfl,rfl⟩
  | some a =>
    have hlt':=(List.getElem?_eq_some_iff.1 hc).1
    have hlt : (k : Int) < t.routs.length:=by omega
    have hk1 : (k : Int) + 1 = ((k + 1 : Nat) : Int):=by omega
    by_cases h : a.n = n
    · have he : decide (a.n = n) = true:=by simp [h]
      rw[show routF t n = some a from fat hinv hc he]
      obtain ⟨n0,lk,mi⟩:=a
      simp only at h he
      simp (disch:=first|omega|(simp only[lenT];omega)) only[tarV,rouR,hc,dT hlt,he,evSt,↓eA,eB,evU,seval]
      exact ⟨_,S,hn.fgt _,.imm rfl,Nat.le_refl _,rfl,rfl⟩
    · have h0:=h
      have hfn:=fnx hinv hc (by simp [h])
      obtain ⟨n0,lk,mi⟩:=a
      simp only at h
      simp (disch:=first|omega|(simp only[lenT];omega)) only[tarV,rouR,wrap_i64,hk1,hc,dT hlt,dF h,evSt,↓eA,eB,evU,seval]
      exact ⟨k + 1,⟨by omega,hfn⟩,by omega,.inl ⟨by simp only[tarV,↓eA,eB,evU,seval];try rfl,rfl⟩⟩
end Go.Proofs.YtanmnoipikdplaaGreat
/- Component: routings that allow,what is paid,lists compared. -/
namespace Go.Proofs.YtanmnoipikdplaaGreat
open Go Go.AL
set_option linter.unusedSectionVars false
variable [Go.AL.Mode]
set_option linter.unusedSimpArgs false
set_option linter.unusedVariables false
theorem linked_step {ln : List (Txt × Txt)} {cs : List Txt} {k : Nat} {a b : Txt} (ha : cs[k]? = some a) (hb : cs[k + 1]? = some b) : linkedF ln (cs.drop k) = (ln.contains (a,b) && linkedF ln (cs.drop (k + 1))):=by
  rw[drop_at ha,drop_at hb,linkedF]
theorem linked_end {ln : List (Txt × Txt)} {cs : List Txt} {k : Nat} (h : ¬ k + 1 < cs.length) : linkedF ln (cs.drop k) = true:=by
  have : (cs.drop k).length ≤ 1:=by rw[List.length_drop];omega
  match cs.drop k,this with
  | [],_=>rfl
  | [_],_=>rfl
theorem allows_A (r : Rou) (cs : List Txt) (hc : cs.length ≤ 1000) (S : Store) : CallA Tryz.prog 75 [.agg (rouR r),.sl 1 (cs.map txR)] S fun v S'=>v = .bool (allowsF r cs) ∧ S' = S:=by
  refine CallA.keep Tryz.func75 c5033 (Nat.le_of_ble_eq_true rfl) fun σ hσ=>?_
  obtain ⟨n0,ln,mi⟩:=r
  simp (disch:=first|omega|(simp only[lenT];omega)) only[a5033,rouR,evSt,↓eA,eB,evU,seval]
  cases ln with
  | nil=>exact ⟨fun _=>rfl,fun h=>absurd rfl h⟩
  | cons q ln =>
  have he : allowsF ⟨n0,q :: ln,mi⟩ cs = linkedF (q :: ln) cs:=by simp [allowsF]
  have h0 : ¬ (((q :: ln).length : Nat) : Int) = 0:=by simp only[List.length_cons];omega
  rw[he]
  generalize q :: ln = ln at h0 ⊢
  refine ⟨fun h=>absurd h h0,fun _=>?_⟩
  refine loopA (ι:=Nat) (fun k=>[(1,.sl 1 (cs.map txR)),(2,.cptr [.int .i64 n0,.sl 2 (ln.map lnkR),.int .i64 mi]),(5,.int .i64 ((k : Nat) + 1))]) (fun _=>S) (fun k=>linkedF ln (cs.drop k) = linkedF ln cs ∧ k ≤ cs.length) (fun k=>cs.length - k) 0 ⟨rfl,Nat.zero_le _⟩ ?_ rfl ?_
  · simp only[Int.natCast_zero,Int.zero_add,↓eA,eB,evU,seval]
    try rfl
  rintro k ⟨hin,hk⟩
  by_cases hlt0 : k + 1 < cs.length
  · have hlt : (k : Int) + 1 < cs.length:=by omega
    have ha : cs[k]? = some cs[k]:=List.getElem?_eq_getElem (by omega)
    have hb : cs[k + 1]? = some cs[k + 1]:=List.getElem?_eq_getElem hlt0
    generalize cs[k] = a at ha
    generalize cs[k + 1] = b at hb
    rw[linked_step ha hb] at hin
    have hcast : (k : Int) + 1 = ((k + 1 : Nat) : Int):=by omega
    have hcast2 : ((k + 1 : Nat) : Int) - 1 = (k : Int):=by omega
    have hltc : ((k + 1 : Nat) : Int) < cs.length:=by omega
    have hh:=hasL_A ln (a,b) S
    simp only[lnkR] at hh
    simp (disch:=first|omega|(simp only[lenT];omega)) only[hcast,hcast2,dT hltc,ha,hb,txR,wrap_i64,evSt,↓eA,eB,evU,seval]
    refine hh.then ?_
    generalize hq : ln.contains (a,b) = z at hin ⊢
    cases z with
    | false =>
      rw[Bool.false_and] at hin
      simp (disch:=first|omega|(simp only[lenT];omega)) only[← hin,evSt,↓eA,eB,evU,seval]
    | true =>
      rw[Bool.true_and] at hin
      simp (disch:=first|omega|(simp only[lenT];omega)) only[wrap_i64,evSt,↓eA,eB,evU,seval]
      exact ⟨k + 1,⟨hin,by omega⟩,by omega,by first | rfl | exact ⟨rfl,rfl⟩ | exact ⟨rfl,rfl,rfl⟩⟩
  · have hlt : ¬ (k : Int) + 1 < cs.length:=by omega
    rw[linked_end hlt0] at hin
    simp (disch:=first|omega|(simp only[lenT];omega)) only[dF hlt,← hin,evSt,↓eA,eB,evU,seval]
theorem ix_neg {α : Type} (q : α → Bool) (l : List α) (k : Nat) : decide (ixF q l k < 0) = !l.any q:=by
  rw[← ix_any q l k,← decide_not]
  congr 1
  exact propext ⟨fun h=>by omega,fun h=>by omega⟩
theorem link_A (l : List (Txt × Txt)) (a b : Txt) (S : Store) : CallA Tryz.prog 77 [.sl 2 (l.map lnkR),.str a,.str b] S fun r S'=>r = .int .i64 (ixF (fun x=>decide (x.1 = a) && decide (x.2 = b)) l 0) ∧ S' = S:=by
  refine sl_len (fun hm=>?_) ⟨Tryz.f77,Tryz.func77,by kernel_rfl,by kernel_rfl⟩
  rw[List.length_map] at hm
  have hm':=mx _ hm
  refine CallA.keep Tryz.func77 c5035 (Nat.le_of_ble_eq_true rfl) fun σ hσ=>?_
  simp (disch:=first|omega|(simp only[lenT];omega)) only[a5035,evSt,↓eA,eB,evU,seval]
  refine loopA (ι:=Nat) (fun k=>[(0,.sl 2 (l.map lnkR)),(1,.str a),(2,.str b),(7,.int .i64 (k : Nat))]) (fun _=>S) (fun k=>k ≤ l.length ∧ ixF (fun x=>decide (x.1 = a) && decide (x.2 = b)) l 0 = ixF (fun x=>decide (x.1 = a) && decide (x.2 = b)) (l.drop k) k) (fun k=>l.length - k) 0 ⟨Nat.zero_le _,rfl⟩ ?_ rfl ?_
  · simp only[↓eA,eB,evU,seval]
    try rfl
  rintro k ⟨hk,he⟩
  cases hc : l[k]? with
  | none =>
    have hge : l.length ≤ k:=List.getElem?_eq_none_iff.1 hc
    have hlt : ¬ ((k : Int) < l.length):=by omega
    rw[List.drop_eq_nil_of_le hge] at he
    simp (disch:=first|omega|(simp only[lenT];omega)) only[dF hlt,he,ixF,evSt,↓eA,eB,evU,seval]
  | some y =>
    have hlt':=(List.getElem?_eq_some_iff.1 hc).1
    have hlt : (k : Int) < l.length:=by omega
    have hk1 : (k : Int) + 1 = ((k + 1 : Nat) : Int):=by omega
    rw[drop_at hc,ixF] at he
    cases h1 : decide (y.1 = a)<;>cases h2 : decide (y.2 = b)<;>rw[h1,h2] at he<;>simp (disch:=first|omega|(simp only[lenT];omega)) only[dT hlt,h1,h2,hc,lnkR,wrap_i64,hk1,evSt,↓eA,eB,evU,seval]
    · exact ⟨k + 1,⟨by omega,by simpa using he⟩,by omega,by first | rfl | exact ⟨rfl,rfl⟩⟩
    · exact ⟨k + 1,⟨by omega,by simpa using he⟩,by omega,by first | rfl | exact ⟨rfl,rfl⟩⟩
    · exact ⟨k + 1,⟨by omega,by simpa using he⟩,by omega,by first | rfl | exact ⟨rfl,rfl⟩⟩
    · exact (by simpa using he.symm)
theorem any_link (l : List (Txt × Txt)) (a b : Txt) : (l.any fun x=>decide (x.1 = a) && decide (x.2 = b)) = l.contains (a,b):=by
  rw[Bool.eq_iff_iff,List.any_eq_true,List.contains_iff_mem]
  simp only[Bool.and_eq_true,decide_eq_true_eq]
  constructor
  · rintro ⟨x,h1,rfl,rfl⟩;exact h1
  · exact fun h=>⟨(a,b),h,rfl,rfl⟩
theorem rallows_A (r : Rou) (cs : List Txt) (hc : cs.length ≤ 1000) (S : Store) : CallA Tryz.prog 52 [.agg (rouR r),.sl 1 (cs.map txR)] S fun v S'=>v = .bool (allowsF r cs) ∧ S' = S:=by
  refine CallA.keep Tryz.func52 c5034 (Nat.le_of_ble_eq_true rfl) fun σ hσ=>?_
  obtain ⟨n0,ln,mi⟩:=r
  simp (disch:=first|omega|(simp only[lenT];omega)) only[a5034,rouR,evSt,↓eA,eB,evU,seval]
  by_cases h0 : (0 : Int) < (ln.length : Nat)
  case' neg =>
    have hz : ln = []:=by cases ln with
      | nil=>rfl
      | cons x y=>simp only[List.length_cons] at h0;omega
    have hr : allowsF ⟨n0,ln,mi⟩ cs = true:=by rw[hz];rfl
    rw[hr]
  case' pos =>
    have he : allowsF ⟨n0,ln,mi⟩ cs = linkedF ln cs:=by
      cases ln with
      | nil=>simp at h0
      | cons x y=>simp [allowsF]
    rw[he]
  case neg =>
    refine loopA (ι:=Unit) (fun k=>[(1,.sl 1 (cs.map txR)),(2,.cptr [.int .i64 n0,.sl 2 (ln.map lnkR),.int .i64 mi]),(5,.int .i64 1)]) (fun _=>S) (fun k=>True) (fun k=>0) () trivial ?_ rfl ?_
    · simp only[↓eA,eB,evU,seval]
      try rfl
    rintro _ _
    by_cases h1 : (1 : Int) < cs.length
    · simp (disch:=first|omega|(simp only[lenT];omega)) only[dT h1,dF h0,evSt,↓eA,eB,evU,seval]
    · simp (disch:=first|omega|(simp only[lenT];omega)) only[dF h1,evSt,↓eA,eB,evU,seval]
  refine loopA (ι:=Nat) (fun k=>[(1,.sl 1 (cs.map txR)),(2,.cptr [.int .i64 n0,.sl 2 (ln.map lnkR),.int .i64 mi]),(5,.int .i64 ((k : Nat) + 1))]) (fun _=>S) (fun k=>linkedF ln (cs.drop k) = linkedF ln cs ∧ k ≤ cs.length) (fun k=>cs.length - k) 0 ⟨rfl,Nat.zero_le _⟩ ?_ rfl ?_
  · simp only[Int.natCast_zero,Int.zero_add,↓eA,eB,evU,seval]
    try rfl
  rintro k ⟨hin,hk⟩
  by_cases hlt0 : k + 1 < cs.length
  · have hlt : (k : Int) + 1 < cs.length:=by omega
    have ha : cs[k]? = some cs[k]:=List.getElem?_eq_getElem (by omega)
    have hb : cs[k + 1]? = some cs[k + 1]:=List.getElem?_eq_getElem hlt0
    generalize cs[k] = a at ha
    generalize cs[k + 1] = b at hb
    rw[linked_step ha hb] at hin
    have hcast : (k : Int) + 1 = ((k + 1 : Nat) : Int):=by omega
    have hcast2 : ((k + 1 : Nat) : Int) - 1 = (k : Int):=by omega
    have hltc : ((k + 1 : Nat) : Int) < cs.length:=by omega
    simp (disch:=first|omega|(simp only[lenT];omega)) only[hcast,hcast2,dT hltc,dT h0,ha,hb,txR,wrap_i64,evSt,↓eA,eB,evU,seval]
    refine (link_A ln a b S).then ?_
    rw[← any_link] at hin
    simp (disch:=first|omega|(simp only[lenT];omega)) only[ix_neg,evSt,↓eA,eB,evU,seval]
    generalize hq : (ln.any fun x=>decide (x.1 = a) && decide (x.2 = b)) = z at hin ⊢
    cases z with
    | false =>
      rw[Bool.false_and] at hin
      simp (disch:=first|omega|(simp only[lenT];omega)) only[← hin,evSt,↓eA,eB,evU,seval]
    | true =>
      rw[Bool.true_and] at hin
      simp (disch:=first|omega|(simp only[lenT];omega)) only[wrap_i64,evSt,↓eA,eB,evU,seval]
      exact ⟨k + 1,⟨hin,by omega⟩,by omega,by first | rfl | exact ⟨rfl,rfl⟩ | exact ⟨rfl,rfl,rfl⟩⟩
  · have hlt : ¬ (k : Int) + 1 < cs.length:=by omega
    rw[linked_end hlt0] at hin
    simp (disch:=first|omega|(simp only[lenT];omega)) only[dF hlt,← hin,evSt,↓eA,eB,evU,seval]
theorem pay_A (r : Rul) (hp : ∀ q ∈ r.per,0 ≤ q.2 ∧ q.2 ≤ 1000) (ty : Txt) (am : Int) (S : Store) : CallA Tryz.prog 39 [.agg (rulR r),.str ty,.int .i64 am] S fun v S'=>v = .tup [.int .i64 (payF r ty am).1,.int .i64 (payF r ty am).2] ∧ S' = S:=by
  obtain ⟨n0,⟨c1,c2,c3,c4,c5,c6⟩,cb,mn,m2,ch,rf,per⟩:=r
  simp only at hp
  refine agg_len (j:=14) (sz:=2) (rows:=per.map perR) rfl (fun hm=>?_) ⟨Tryz.f39,Tryz.func39,by kernel_rfl,by kernel_rfl⟩
  rw[List.length_map] at hm
  have hm':=mx _ hm
  refine CallA.withNeat Tryz.func39 c5038 fun hn=>?_
  refine CallA.fin Tryz.func39 c5038 (Nat.le_of_ble_eq_true rfl) fun σ hσ=>?_
  simp (disch:=first|omega|(simp only[lenT];omega)) only[a5038,rulR,Cnd.row,evSt,↓eA,eB,evU,seval]
  refine loopF (ι:=Nat) (fun k=>[(1,.str ty),(2,.int .i64 am),(11,.sl 2 (per.map perR)),(12,.int .i64 per.length),(13,.int .i64 (k : Nat))]) (fun _=>S) (fun k=>k ≤ per.length ∧ per.find? (fun q=>decide (q.1 = ty)) = (per.drop k).find? (fun q=>decide (q.1 = ty))) (fun k=>per.length - k) (fun i hi=>by rw[hσ];exact Nat.le_refl _) 0 ⟨Nat.zero_le _,rfl⟩ (.inl ⟨?_,rfl⟩) ?_
  · simp only[rulR,Cnd.row,↓eA,eB,evU,seval]
    try rfl
  rintro k ⟨hk,hinv⟩
  cases hc : per[k]? with
  | none =>
    have hge : per.length ≤ k:=List.getElem?_eq_none_iff.1 hc
    have hlt : ¬ ((k : Int) < per.length):=by omega
    have hf:=fen hinv hc
    have pc:=Ml.percent_A am 10000 S (by omega)
    simp (disch:=first|omega|(simp only[lenT];omega)) only[dF hlt,rulR,Cnd.row,evSt,↓eA,eB,evU,seval]
    refine pc.then ?_
    simp (disch:=first|omega|(simp only[lenT];omega)) only[evSt,↓eA,eB,evU,seval]
    exact ⟨_,S,hn.self,.imm rfl,Nat.le_refl _,by simp only[payF,hf],rfl⟩
  | some a =>
    have hlt':=(List.getElem?_eq_some_iff.1 hc).1
    have hlt : (k : Int) < per.length:=by omega
    have hk1 : (k : Int) + 1 = ((k + 1 : Nat) : Int):=by omega
    obtain ⟨hb1,hb2⟩:=hp a (List.mem_of_getElem? hc)
    by_cases h : a.1 = ty
    · have hf:=fat hinv hc (by simp [h])
      have h4 : 100 * a.2 = (((100 * a.2).toNat : Nat) : Int):=by omega
      have pc:=fun S=>Ml.percent_A am (100 * a.2).toNat S (by omega)
      rw[← h4] at pc
      simp (disch:=first|omega|(simp only[lenT];omega)) only[dT hlt,hc,dT h,perR,rulR,Cnd.row,wrap_i64,evSt,↓eA,eB,evU,seval]
      refine (pc _).then ?_
      simp (disch:=first|omega|(simp only[lenT];omega)) only[evSt,↓eA,eB,evU,seval]
      exact ⟨_,S,hn.fgt _,.imm rfl,Nat.le_refl _,by simp only[payF,hf],rfl⟩
    · have hfn:=fnx hinv hc (by simp [h])
      simp (disch:=first|omega|(simp only[lenT];omega)) only[dT hlt,hc,dF h,perR,rulR,Cnd.row,wrap_i64,hk1,evSt,↓eA,eB,evU,seval]
      exact ⟨k + 1,⟨by omega,hfn⟩,by omega,back_under (hn.fgt _) (by simp only[↓eA,eB,evU,seval];try rfl) (by simp [V.under,V.allUnder])⟩
theorem rpay_A (r : Rul) (hp : ∀ q ∈ r.per,0 ≤ q.2 ∧ q.2 ≤ 1000) (ty : Txt) (am : Int) (S : Store) : CallA Tryz.prog 44 [.agg (rulR r),.str ty,.int .i64 am] S fun v S'=>v = .tup [.int .i64 (payF r ty am).1,.int .i64 (payF r ty am).2] ∧ S' = S:=by
  obtain ⟨n0,⟨c1,c2,c3,c4,c5,c6⟩,cb,mn,m2,ch,rf,per⟩:=r
  simp only at hp
  refine agg_len (j:=14) (sz:=2) (rows:=per.map perR) rfl (fun hm=>?_) ⟨Tryz.f44,Tryz.func44,by kernel_rfl,by kernel_rfl⟩
  rw[List.length_map] at hm
  have hm':=mx _ hm
  refine CallA.withNeat Tryz.func44 c5040 fun hn=>?_
  refine CallA.fin Tryz.func44 c5040 (Nat.le_of_ble_eq_true rfl) fun σ hσ=>?_
  simp (disch:=first|omega|(simp only[lenT];omega)) only[a5040,rulR,Cnd.row,evSt,↓eA,eB,evU,seval]
  refine loopF (ι:=Nat) (fun k=>[(1,.str ty),(2,.int .i64 am),(3,.cptr (rulR ⟨n0,.mk c1 c2 c3 c4 c5 c6,cb,mn,m2,ch,rf,per⟩)),(8,.int .i64 (k : Nat))]) (fun _=>S) (fun k=>k ≤ per.length ∧ per.find? (fun q=>decide (q.1 = ty)) = (per.drop k).find? (fun q=>decide (q.1 = ty))) (fun k=>per.length - k) (fun i hi=>by rw[hσ];exact Nat.le_refl _) 0 ⟨Nat.zero_le _,rfl⟩ (.inl ⟨?_,rfl⟩) ?_
  · simp only[rulR,Cnd.row,↓eA,eB,evU,seval]
    try rfl
  rintro k ⟨hk,hinv⟩
  cases hc : per[k]? with
  | none =>
    have hge : per.length ≤ k:=List.getElem?_eq_none_iff.1 hc
    have hlt : ¬ ((k : Int) < per.length):=by omega
    have hf:=fen hinv hc
    have pc:=Ml.refpercent_A am 10000 S (by omega)
    simp (disch:=first|omega|(simp only[lenT];omega)) only[dF hlt,rulR,Cnd.row,evSt,↓eA,eB,evU,seval]
    refine pc.then ?_
    simp (disch:=first|omega|(simp only[lenT];omega)) only[evSt,↓eA,eB,evU,seval]
    exact ⟨_,S,hn.self,.imm rfl,Nat.le_refl _,by simp only[payF,hf],rfl⟩
  | some a =>
    have hlt':=(List.getElem?_eq_some_iff.1 hc).1
    have hlt : (k : Int) < per.length:=by omega
    have hk1 : (k : Int) + 1 = ((k + 1 : Nat) : Int):=by omega
    obtain ⟨hb1,hb2⟩:=hp a (List.mem_of_getElem? hc)
    by_cases h : a.1 = ty
    · have hf:=fat hinv hc (by simp [h])
      have h4 : 100 * a.2 = (((100 * a.2).toNat : Nat) : Int):=by omega
      have pc:=fun S=>Ml.refpercent_A am (100 * a.2).toNat S (by omega)
      rw[← h4] at pc
      simp (disch:=first|omega|(simp only[lenT];omega)) only[dT hlt,hc,dT h,perR,rulR,Cnd.row,wrap_i64,evSt,↓eA,eB,evU,seval]
      refine (pc _).then ?_
      simp (disch:=first|omega|(simp only[lenT];omega)) only[evSt,↓eA,eB,evU,seval]
      exact ⟨_,S,hn.self,.imm rfl,Nat.le_refl _,by simp only[payF,hf],rfl⟩
    · have hfn:=fnx hinv hc (by simp [h])
      simp (disch:=first|omega|(simp only[lenT];omega)) only[dT hlt,hc,dF h,perR,rulR,Cnd.row,wrap_i64,hk1,evSt,↓eA,eB,evU,seval]
      exact ⟨k + 1,⟨by omega,hfn⟩,by omega,.inl ⟨by simp only[rulR,Cnd.row,↓eA,eB,evU,seval];try rfl,rfl⟩⟩
theorem among1_A (tx : List Txt) (s : Txt) (S : Store) : CallA Tryz.prog 133 [.str s,.cptr [.sl 1 (tx.map txR)]] S fun v S'=>v = .bool (!tx.contains s) ∧ S' = S:=by
  refine CallA.keep Tryz.func133 c5057 (Nat.le_of_ble_eq_true rfl) fun σ hσ=>?_
  simp (disch:=first|omega|(simp only[lenT];omega)) only[a5057,evSt,↓eA,eB,evU,seval]
  refine (hasT_A tx s S).then ?_
  simp (disch:=first|omega|(simp only[lenT];omega)) only[evSt,↓eA,eB,evU,seval]
theorem among_A (l tx : List Txt) (S : Store) : CallA Tryz.prog 104 [.sl 1 (l.map txR),.sl 1 (tx.map txR)] S fun v S'=>v = .bool (l.all fun s=>tx.contains s) ∧ S' = S:=by
  refine CallA.keep Tryz.func104 c5056 (Nat.le_of_ble_eq_true rfl) fun σ hσ=>?_
  simp (disch:=first|omega|(simp only[lenT];omega)) only[a5056,evSt,↓eA,eB,evU,seval]
  refine (anyS_A l (fun s=>!tx.contains s) _ _ S fun x _=>among1_A tx x S).then ?_
  simp (disch:=first|omega|(simp only[lenT];omega)) only[List.not_any_eq_all_not,Bool.not_not,evSt,↓eA,eB,evU,seval]
theorem has20_A (l : List Txt) (s : Txt) (S : Store) : CallA Tryz.prog 113 [.sl 1 (l.map txR),.str s] S fun v S'=>v = .bool (l.contains s) ∧ S' = S:=by
  refine sl_len (fun hm=>?_) ⟨Tryz.f113,Tryz.func113,by kernel_rfl,by kernel_rfl⟩
  rw[List.length_map] at hm
  have hm':=mx _ hm
  refine CallA.keep Tryz.func113 c5062 (Nat.le_of_ble_eq_true rfl) fun σ hσ=>?_
  simp (disch:=first|omega|(simp only[lenT];omega)) only[a5062,evSt,↓eA,eB,evU,seval]
  refine loopA (ι:=Nat) (fun k=>[(0,.sl 1 (l.map txR)),(1,.str s),(5,.int .i64 (k : Nat))]) (fun _=>S) (fun k=>k ≤ l.length ∧ l.contains s = (l.drop k).contains s) (fun k=>l.length - k) 0 ⟨Nat.zero_le _,rfl⟩ ?_ rfl ?_
  · simp only[↓eA,eB,evU,seval]
    try rfl
  rintro k ⟨hk,he⟩
  cases hc : l[k]? with
  | none =>
    have hge : l.length ≤ k:=List.getElem?_eq_none_iff.1 hc
    have hlt : ¬ ((k : Int) < l.length):=by omega
    rw[List.drop_eq_nil_of_le hge] at he
    simp (disch:=first|omega|(simp only[lenT];omega)) only[dF hlt,he,List.contains_nil,evSt,↓eA,eB,evU,seval]
  | some y =>
    have hlt':=(List.getElem?_eq_some_iff.1 hc).1
    have hlt : (k : Int) < l.length:=by omega
    have hk1 : (k : Int) + 1 = ((k + 1 : Nat) : Int):=by omega
    rw[drop_at hc,List.contains_cons] at he
    by_cases h : y = s
    · have hb : (s == y) = true:=by simp [h]
      rw[hb,Bool.true_or] at he
      simp (disch:=first|omega|(simp only[lenT];omega)) only[dT hlt,hc,dT h,he,txR,evSt,↓eA,eB,evU,seval]
    · have hb : (s == y) = false:=by rw[beq_eq_false_iff_ne];exact fun e=>h e.symm
      rw[hb,Bool.false_or] at he
      simp (disch:=first|omega|(simp only[lenT];omega)) only[dT hlt,hc,dF h,txR,wrap_i64,hk1,evSt,↓eA,eB,evU,seval]
      exact ⟨k + 1,⟨by omega,he⟩,by omega,by first | rfl | exact ⟨rfl,rfl⟩⟩
theorem within_A (l tx : List Txt) (S : Store) : CallA Tryz.prog 111 [.sl 1 (l.map txR),.sl 1 (tx.map txR)] S fun v S'=>v = .bool (l.all fun s=>tx.contains s) ∧ S' = S:=by
  refine sl_len (fun hm=>?_) ⟨Tryz.f111,Tryz.func111,by kernel_rfl,by kernel_rfl⟩
  rw[List.length_map] at hm
  have hm':=mx _ hm
  refine CallA.keep Tryz.func111 c5060 (Nat.le_of_ble_eq_true rfl) fun σ hσ=>?_
  simp (disch:=first|omega|(simp only[lenT];omega)) only[a5060,evSt,↓eA,eB,evU,seval]
  refine loopA (ι:=Nat) (fun k=>[(0,.sl 1 (l.map txR)),(1,.sl 1 (tx.map txR)),(5,.int .i64 (k : Nat))]) (fun _=>S) (fun k=>k ≤ l.length ∧ (l.all fun s=>tx.contains s) = ((l.drop k).all fun s=>tx.contains s)) (fun k=>l.length - k) 0 ⟨Nat.zero_le _,rfl⟩ ?_ rfl ?_
  · simp only[↓eA,eB,evU,seval]
    try rfl
  rintro k ⟨hk,he⟩
  cases hc : l[k]? with
  | none =>
    have hge : l.length ≤ k:=List.getElem?_eq_none_iff.1 hc
    have hlt : ¬ ((k : Int) < l.length):=by omega
    rw[List.drop_eq_nil_of_le hge] at he
    simp (disch:=first|omega|(simp only[lenT];omega)) only[dF hlt,he,List.all_nil,evSt,↓eA,eB,evU,seval]
  | some y =>
    have hlt':=(List.getElem?_eq_some_iff.1 hc).1
    have hlt : (k : Int) < l.length:=by omega
    have hk1 : (k : Int) + 1 = ((k + 1 : Nat) : Int):=by omega
    rw[drop_at hc,List.all_cons] at he
    simp (disch:=first|omega|(simp only[lenT];omega)) only[dT hlt,hc,txR,evSt,↓eA,eB,evU,seval]
    refine (has20_A tx y S).then ?_
    generalize tx.contains y = z at he ⊢
    cases z with
    | false =>
      rw[Bool.false_and] at he
      simp (disch:=first|omega|(simp only[lenT];omega)) only[he,evSt,↓eA,eB,evU,seval]
    | true =>
      rw[Bool.true_and] at he
      simp (disch:=first|omega|(simp only[lenT];omega)) only[wrap_i64,hk1,evSt,↓eA,eB,evU,seval]
      exact ⟨k + 1,⟨by omega,he⟩,by omega,by first | rfl | exact ⟨rfl,rfl⟩⟩
theorem num1_A (c : Cnd) (a b : Int) (p : Pd) (tx : List Txt) (k : Int) (l : List Cnd) (n : Int) (S : Store) : CallA Tryz.prog 106 [.int .i64 n,.cptr (Cnd.mk k l a b p tx).row] S fun v S'=>v = .bool (!(decide (a ≤ n) && decide (n ≤ b))) ∧ S' = S:=by
  refine CallA.keep Tryz.func106 c5055 (Nat.le_of_ble_eq_true rfl) fun σ hσ=>?_
  by_cases h1 : n < a
  · have h2 : ¬ a ≤ n:=by omega
    simp (disch:=first|omega|(simp only[lenT];omega)) only[a5055,Cnd.row,dT h1,dF h2,Bool.false_and,Bool.not_false,evSt,↓eA,eB,evU,seval]
  · have h2 : a ≤ n:=by omega
    by_cases h3 : b < n
    · have h4 : ¬ n ≤ b:=by omega
      simp (disch:=first|omega|(simp only[lenT];omega)) only[a5055,Cnd.row,dF h1,dT h2,dT h3,dF h4,Bool.and_false,Bool.not_false,evSt,↓eA,eB,evU,seval]
    · have h4 : n ≤ b:=by omega
      simp (disch:=first|omega|(simp only[lenT];omega)) only[a5055,Cnd.row,dF h1,dT h2,dF h3,dT h4,Bool.and_self,evSt,↓eA,eB,evU,seval]
theorem between_A (l : List Int) (a b : Int) (S : Store) : CallA Tryz.prog 112 [.sl 1 (l.map inR),.int .i64 a,.int .i64 b] S fun v S'=>v = .bool (l.all fun n=>decide (a ≤ n) && decide (n ≤ b)) ∧ S' = S:=by
  refine sl_len (fun hm=>?_) ⟨Tryz.f112,Tryz.func112,by kernel_rfl,by kernel_rfl⟩
  rw[List.length_map] at hm
  have hm':=mx _ hm
  refine CallA.keep Tryz.func112 c5061 (Nat.le_of_ble_eq_true rfl) fun σ hσ=>?_
  simp (disch:=first|omega|(simp only[lenT];omega)) only[a5061,evSt,↓eA,eB,evU,seval]
  refine loopA (ι:=Nat) (fun k=>[(0,.sl 1 (l.map inR)),(1,.int .i64 a),(2,.int .i64 b),(7,.int .i64 (k : Nat))]) (fun _=>S) (fun k=>k ≤ l.length ∧ (l.all fun n=>decide (a ≤ n) && decide (n ≤ b)) = ((l.drop k).all fun n=>decide (a ≤ n) && decide (n ≤ b))) (fun k=>l.length - k) 0 ⟨Nat.zero_le _,rfl⟩ ?_ rfl ?_
  · simp only[↓eA,eB,evU,seval]
    try rfl
  rintro k ⟨hk,he⟩
  cases hc : l[k]? with
  | none =>
    have hge : l.length ≤ k:=List.getElem?_eq_none_iff.1 hc
    have hlt : ¬ ((k : Int) < l.length):=by omega
    rw[List.drop_eq_nil_of_le hge] at he
    simp (disch:=first|omega|(simp only[lenT];omega)) only[dF hlt,he,List.all_nil,evSt,↓eA,eB,evU,seval]
  | some y =>
    have hlt':=(List.getElem?_eq_some_iff.1 hc).1
    have hlt : (k : Int) < l.length:=by omega
    have hk1 : (k : Int) + 1 = ((k + 1 : Nat) : Int):=by omega
    rw[drop_at hc,List.all_cons] at he
    by_cases h1 : y < a
    · have h2 : ¬ a ≤ y:=by omega
      rw[dF h2,Bool.false_and,Bool.false_and] at he
      simp (disch:=first|omega|(simp only[lenT];omega)) only[dT hlt,hc,dT h1,he,inR,evSt,↓eA,eB,evU,seval]
    · have h2 : a ≤ y:=by omega
      by_cases h3 : b < y
      · have h4 : ¬ y ≤ b:=by omega
        rw[dF h4,Bool.and_false,Bool.false_and] at he
        simp (disch:=first|omega|(simp only[lenT];omega)) only[dT hlt,hc,dF h1,dT h3,he,inR,evSt,↓eA,eB,evU,seval]
      · have h4 : y ≤ b:=by omega
        rw[dT h2,dT h4,Bool.true_and,Bool.true_and] at he
        simp (disch:=first|omega|(simp only[lenT];omega)) only[dT hlt,hc,dF h1,dF h3,inR,wrap_i64,hk1,evSt,↓eA,eB,evU,seval]
        exact ⟨k + 1,⟨by omega,he⟩,by omega,by first | rfl | exact ⟨rfl,rfl⟩⟩
end Go.Proofs.YtanmnoipikdplaaGreat
