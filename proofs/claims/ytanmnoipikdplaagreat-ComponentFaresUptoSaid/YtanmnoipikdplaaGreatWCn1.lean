/- Component: zones, days; lengths; routings. -/
import Derived.Test.YtanmnoipikdplaaGreatWCmdC
import Derived.Test.YtanmnoipikdplaaGreatWCsA
import Derived.Test.YtanmnoipikdplaaGreatWCmp1
namespace Go.Proofs.YtanmnoipikdplaaGreat
open Go Go.AL
set_option linter.unusedSectionVars false
variable [Go.AL.Mode]
set_option linter.unusedSimpArgs false
set_option linter.unusedVariables false
theorem drop_at {α : Type} {l : List α} {k : Nat} {x : α} (h : l[k]? = some x) : l.drop k = x :: l.drop (k + 1):=by
  obtain ⟨hlt,rfl⟩:=List.getElem?_eq_some_iff.1 h
  exact List.drop_eq_getElem_cons hlt
theorem tdm {a b : Int} (hb : 0 < b) : (0 ≤ a → a.tdiv b = a / b ∧ a.tmod b = a % b) ∧ (a < 0 → a.tdiv b = -((-a) / b) ∧ a.tmod b = -((-a) % b)):=by
  refine ⟨fun h=>⟨Int.tdiv_eq_ediv_of_nonneg h,Int.tmod_eq_emod_of_nonneg h⟩,fun h=>?_⟩
  have e : a = -(-a):=by omega
  have h1 : a.tdiv b = -((-a).tdiv b):=by conv=>lhs;rw[e,Int.neg_tdiv]
  have h2 : a.tmod b = -((-a).tmod b):=by conv=>lhs;rw[e,Int.neg_tmod]
  rw[h1,h2,Int.tdiv_eq_ediv_of_nonneg (by omega),Int.tmod_eq_emod_of_nonneg (by omega)]
  exact ⟨rfl,rfl⟩
theorem sl_len {f : FuncId} {sz : Nat} {rows : List (List V)} {rest : List V} {S : Store} {R : V → Store → Prop} (h : rows.length ≤ maxLen → CallA Tryz.prog f (.sl sz rows :: rest) S R) (h0 : callable Tryz.prog f) : CallA Tryz.prog f (.sl sz rows :: rest) S R :=
  ⟨h0,fun ρ w us hi hv=>by
    obtain ⟨u,_,hu⟩:=hv.2 0 _ rfl
    cases hu with
    | slNil=>exact (h (Nat.zero_le _)).2 ρ w us hi hv
    | sl c hun hlen hcap hmax=>exact (h (by omega)).2 ρ w us hi hv⟩
theorem agg_len {f : FuncId} {r : List V} {j sz : Nat} {rows : List (List V)} {rest : List V} {S : Store} {R : V → Store → Prop} (hj : r[j]? = some (.sl sz rows)) (h : rows.length ≤ maxLen → CallA Tryz.prog f (.agg r :: rest) S R) (h0 : callable Tryz.prog f) : CallA Tryz.prog f (.agg r :: rest) S R :=
  ⟨h0,fun ρ w us hi hv=>by
    obtain ⟨u,_,hu⟩:=hv.2 0 _ rfl
    cases hu with
    | agg c hl hc hm =>
      have hx:=hm j _ hj
      generalize c j = y at hx
      cases hx with
      | slNil=>exact (h (Nat.zero_le _)).2 ρ w us hi hv
      | sl c hun hlen hcap hmax=>exact (h (by omega)).2 ρ w us hi hv⟩
theorem offset_A (off : Int) (sh : List (Int × Int)) (hl : sh.length ≤ 2000000) (u : Int) (S : Store) : CallA Tryz.prog 65 [.agg [.int .i64 off,.sl 2 (sh.map shR)],.int .i64 u] S fun r S'=>r = .int .i64 (offB off sh u) ∧ S' = S:=by
  refine CallA.withNeat Tryz.func65 c5027 fun hn=>?_
  refine CallA.fin Tryz.func65 c5027 (Nat.le_of_ble_eq_true rfl) fun σ hσ=>?_
  simp (disch:=first|omega|(simp only[lenT];omega)) only[a5027,evSt,↓eA,eB,evU,seval]
  refine loopF (ι:=Nat × Int) (fun k=>[(1,.int .i64 u),(5,.int .i64 k.2),(11,.sl 2 (sh.map shR)),(12,.int .i64 sh.length),(13,.int .i64 (k.1 : Nat))]) (fun _=>S) (fun k=>k.1 ≤ sh.length ∧ offB k.2 (sh.drop k.1) u = offB off sh u) (fun k=>sh.length - k.1) (fun i hi=>by rw[hσ];exact Nat.le_refl _) (0,off) ⟨Nat.zero_le _,rfl⟩ (.inl ⟨?_,rfl⟩) ?_
  · simp only[↓eA,eB,evU,seval]
    try rfl
  rintro ⟨k,o⟩ ⟨hk,hin⟩
  simp only at hk hin ⊢
  cases hc : sh[k]? with
  | none =>
    have hge : sh.length ≤ k:=List.getElem?_eq_none_iff.1 hc
    have hlt : ¬ ((k : Int) < sh.length):=by omega
    rw[List.drop_eq_nil_of_le hge,offB] at hin
    simp (disch:=first|omega|(simp only[lenT];omega)) only[dF hlt,evSt,↓eA,eB,evU,seval]
    exact ⟨_,S,hn.self,.imm rfl,Nat.le_refl _,by rw[hin],rfl⟩
  | some s =>
    have hlt':=(List.getElem?_eq_some_iff.1 hc).1
    have hlt : (k : Int) < sh.length:=by omega
    have hk1 : (k : Int) + 1 = ((k + 1 : Nat) : Int):=by omega
    rw[drop_at hc,offB] at hin
    by_cases h1 : u < s.1
    · rw[if_pos h1] at hin
      simp (disch:=first|omega|(simp only[lenT];omega)) only[dT hlt,hc,dT h1,shR,evSt,↓eA,eB,evU,seval]
      exact ⟨_,S,hn.fgt _,.imm rfl,Nat.le_refl _,by rw[hin],rfl⟩
    · rw[if_neg h1] at hin
      simp (disch:=first|omega|(simp only[lenT];omega)) only[dT hlt,hc,dF h1,shR,wrap_i64,hk1,evSt,↓eA,eB,evU,seval]
      exact ⟨(k + 1,s.2),⟨by simp only;omega,hin⟩,by simp only;omega,back_under (hn.fgt _) (by simp only[↓eA,eB,evU,seval];try rfl) (by simp [V.under,V.allUnder])⟩
theorem roff_A (off : Int) (sh : List (Int × Int)) (hl : sh.length ≤ 2000000) (u : Int) (S : Store) : CallA Tryz.prog 66 [.agg [.int .i64 off,.sl 2 (sh.map shR)],.int .i64 u] S fun r S'=>r = .int .i64 (offR off sh u) ∧ S' = S:=by
  refine CallA.keep Tryz.func66 c5029 (Nat.le_of_ble_eq_true rfl) fun σ hσ=>?_
  simp (disch:=first|omega|(simp only[lenT];omega)) only[a5029,evSt,↓eA,eB,evU,seval]
  refine loopA (ι:=Nat × Int) (fun k=>[(1,.int .i64 u),(2,.cptr [.int .i64 off,.sl 2 (sh.map shR)]),(5,.int .i64 k.2),(6,.int .i64 (k.1 : Nat))]) (fun _=>S) (fun k=>k.1 ≤ sh.length ∧ offR k.2 (sh.drop k.1) u = offR off sh u) (fun k=>sh.length - k.1) (0,off) ⟨Nat.zero_le _,rfl⟩ ?_ rfl ?_
  · simp only[↓eA,eB,evU,seval]
    try rfl
  rintro ⟨k,o⟩ ⟨hk,hin⟩
  simp only at hk hin ⊢
  cases hc : sh[k]? with
  | none =>
    have hge : sh.length ≤ k:=List.getElem?_eq_none_iff.1 hc
    have hlt : ¬ ((k : Int) < sh.length):=by omega
    rw[List.drop_eq_nil_of_le hge,offR] at hin
    simp (disch:=first|omega|(simp only[lenT];omega)) only[dF hlt,hin,evSt,↓eA,eB,evU,seval]
  | some s =>
    have hlt':=(List.getElem?_eq_some_iff.1 hc).1
    have hlt : (k : Int) < sh.length:=by omega
    have hk1 : (k : Int) + 1 = ((k + 1 : Nat) : Int):=by omega
    rw[drop_at hc,offR] at hin
    by_cases h1 : s.1 ≤ u
    · rw[if_pos h1] at hin
      simp (disch:=first|omega|(simp only[lenT];omega)) only[dT hlt,hc,dT h1,shR,wrap_i64,hk1,evSt,↓eA,eB,evU,seval]
      exact ⟨(k + 1,s.2),⟨by simp only;omega,hin⟩,by simp only;omega,by first | exact ⟨rfl,rfl,rfl⟩ | exact ⟨rfl,rfl⟩⟩
    · rw[if_neg h1] at hin
      simp (disch:=first|omega|(simp only[lenT];omega)) only[dT hlt,hc,dF h1,shR,wrap_i64,hk1,evSt,↓eA,eB,evU,seval]
      exact ⟨(k + 1,o),⟨by simp only;omega,hin⟩,by simp only;omega,by first | exact ⟨rfl,rfl,rfl⟩ | exact ⟨rfl,rfl⟩⟩
def locF (off : Int) (sh : List (Int × Int)) (u : Int) : Int:=IntKind.i64.wrap (u + offB off sh u)
theorem local_A (off : Int) (sh : List (Int × Int)) (hl : sh.length ≤ 2000000) (u : Int) (S : Store) : CallA Tryz.prog 29 [.agg [.int .i64 off,.sl 2 (sh.map shR)],.int .i64 u] S fun r S'=>r = .int .i64 (locF off sh u) ∧ S' = S:=by
  refine CallA.keep Tryz.func29 c5028 (Nat.le_of_ble_eq_true rfl) fun σ hσ=>?_
  simp (disch:=first|omega|(simp only[lenT];omega)) only[a5028,evSt,↓eA,eB,evU,seval]
  refine (offset_A off sh hl u S).then ?_
  simp (disch:=first|omega|(simp only[lenT];omega)) only[locF,evSt,↓eA,eB,evU,seval]
theorem rlocal_A (off : Int) (sh : List (Int × Int)) (hl : sh.length ≤ 2000000) (ho : ShOrd sh) (u : Int) (S : Store) : CallA Tryz.prog 33 [.agg [.int .i64 off,.sl 2 (sh.map shR)],.int .i64 u] S fun r S'=>r = .int .i64 (locF off sh u) ∧ S' = S:=by
  refine CallA.keep Tryz.func33 c5030 (Nat.le_of_ble_eq_true rfl) fun σ hσ=>?_
  simp (disch:=first|omega|(simp only[lenT];omega)) only[a5030,evSt,↓eA,eB,evU,seval]
  refine (roff_A off sh hl u S).then ?_
  simp (disch:=first|omega|(simp only[lenT];omega)) only[locF,off_same sh off u ho,evSt,↓eA,eB,evU,seval]
theorem split_eq (m : Int) (h : -9223372036854775808 ≤ m) (h2 : m < 9223372036854775808) : IntKind.i64.wrap (m.tdiv 1440) = m.tdiv 1440 ∧ (m.tmod 1440 < 0 → IntKind.i64.wrap (m.tdiv 1440 - 1) = m / 1440 ∧ IntKind.i64.wrap (m.tmod 1440 + 1440) = m % 1440) ∧ (¬ m.tmod 1440 < 0 → m.tdiv 1440 = m / 1440 ∧ m.tmod 1440 = m % 1440):=by
  have ht:=tdm (a:=m) (b:=1440) (by omega)
  by_cases h0 : 0 ≤ m
  · obtain ⟨e1,e2⟩:=ht.1 h0
    rw[e1,e2]
    refine ⟨wrap_i64 (by omega) (by omega),fun hh=>by omega,fun _=>⟨rfl,rfl⟩⟩
  · obtain ⟨e1,e2⟩:=ht.2 (by omega)
    rw[e1,e2]
    refine ⟨wrap_i64 (by omega) (by omega),fun hh=>?_,fun hh=>by omega⟩
    rw[wrap_i64 (by omega) (by omega),wrap_i64 (by omega) (by omega)]
    omega
theorem split_A (m : Int) (h : -9223372036854775808 ≤ m) (h2 : m < 9223372036854775808) (S : Store) : CallA Tryz.prog 28 [.int .i64 m] S fun r S'=>r = .tup [.int .i64 (splitF m).1,.int .i64 (splitF m).2] ∧ S' = S:=by
  refine CallA.keep Tryz.func28 c5031 (Nat.le_of_ble_eq_true rfl) fun σ hσ=>?_
  have h5 : (1440 : Int) ≠ 0:=by omega
  obtain ⟨e0,e1,e2⟩:=split_eq m h h2
  by_cases h3 : m.tmod 1440 < 0
  · obtain ⟨e3,e4⟩:=e1 h3
    simp (disch:=first|omega|(simp only[lenT];omega)) only[a5031,bi_quo h5,bi_rem h5,e0,dT h3,e3,e4,splitF,evSt,↓eA,eB,evU,seval]
  · obtain ⟨e3,e4⟩:=e2 h3
    simp (disch:=first|omega|(simp only[lenT];omega)) only[a5031,bi_quo h5,bi_rem h5,e0,dF h3,splitF,evSt,↓eA,eB,evU,seval]
    rw[e3,e4]
theorem rsplit_A (m : Int) (h : -9223372036854775808 ≤ m) (h2 : m < 9223372036854775808) (S : Store) : CallA Tryz.prog 32 [.int .i64 m] S fun r S'=>r = .tup [.int .i64 (splitF m).1,.int .i64 (splitF m).2] ∧ S' = S:=by
  refine CallA.keep Tryz.func32 c5032 (Nat.le_of_ble_eq_true rfl) fun σ hσ=>?_
  have h5 : (1440 : Int) ≠ 0:=by omega
  obtain ⟨e0,e1,e2⟩:=split_eq m h h2
  by_cases h3 : m.tmod 1440 < 0
  · obtain ⟨e3,e4⟩:=e1 h3
    simp (disch:=first|omega|(simp only[lenT];omega)) only[a5032,bi_quo h5,bi_rem h5,e0,dT h3,e3,e4,splitF,evSt,↓eA,eB,evU,seval]
  · obtain ⟨e3,e4⟩:=e2 h3
    simp (disch:=first|omega|(simp only[lenT];omega)) only[a5032,bi_quo h5,bi_rem h5,e0,dF h3,splitF,evSt,↓eA,eB,evU,seval]
    rw[e3,e4]
end Go.Proofs.YtanmnoipikdplaaGreat
/- Component: the library's searches. -/
namespace Go.Proofs.YtanmnoipikdplaaGreat
open Go Go.AL
set_option linter.unusedSectionVars false
variable [Go.AL.Mode]
set_option linter.unusedSimpArgs false
set_option linter.unusedVariables false
def ixF {α : Type} (q : α → Bool) : List α → Nat → Int
  | [],_=>-1
  | x :: l,k=>if q x then (k : Nat) else ixF q l (k + 1)
theorem ix_any {α : Type} (q : α → Bool) : ∀ (l : List α) (k : Nat),decide (0 ≤ ixF q l k) = l.any q
  | [],k=>by simp [ixF]
  | x :: l,k=>by
    rw[ixF,List.any_cons]
    by_cases h : q x = true
    · rw[if_pos h,h];simp
    · rw[if_neg h,ix_any q l (k + 1)];simp [h]
theorem mx (n : Nat) (h : n ≤ maxLen) : n ≤ 9223372036854775807:=by unfold maxLen at h;omega
theorem indexW_A (l : List Wnt) (q : Wnt → Bool) (g : FuncId) (caps : List V) (hl : l.length ≤ 9223372036854775807) (S : Store) (hq : ∀ x ∈ l,CallA Tryz.prog g (.agg (wntR x) :: caps) S fun r S'=>r = .bool (q x) ∧ S' = S) :
    CallA Tryz.prog 73 [.sl 8 (l.map wntR),.func g [] caps] S fun r S'=>r = .int .i64 (ixF q l 0) ∧ S' = S:=by
  refine CallA.keep Tryz.func73 c5203 (Nat.le_of_ble_eq_true rfl) fun σ hσ=>?_
  simp (disch:=first|omega|(simp only[lenT];omega)) only[a5203,evSt,↓eA,eB,evU,seval]
  refine loopA (ι:=Nat) (fun k=>[(0,.sl 8 (l.map wntR)),(1,.func g [] caps),(7,.int .i64 l.length),(8,.int .i64 (k : Nat))]) (fun _=>S) (fun k=>k ≤ l.length ∧ ixF q l 0 = ixF q (l.drop k) k) (fun k=>l.length - k) 0 ⟨Nat.zero_le _,rfl⟩ ?_ rfl ?_
  · simp only[↓eA,eB,evU,seval]
  rintro k ⟨hk,he⟩
  cases hc : l[k]? with
  | none =>
    have hge : l.length ≤ k:=List.getElem?_eq_none_iff.1 hc
    have hlt : ¬ ((k : Int) < l.length):=by omega
    rw[List.drop_eq_nil_of_le hge] at he
    simp (disch:=first|omega|(simp only[lenT];omega)) only[dF hlt,he,ixF,evSt,↓eA,eB,evU,seval]
  | some y =>
    have hlt':=(List.getElem?_eq_some_iff.1 hc).1
    have hlt : (k : Int) < l.length:=by omega
    have hk1 : (k : Int) + 1 = ((k + 1 : Nat) : Int):=by omega
    have hqy:=hq y (List.mem_of_getElem? hc)
    rw[drop_at hc,ixF] at he
    generalize hz : q y = z at he hqy
    try simp only[wntR,sgR,List.cons_append,List.nil_append] at hqy
    simp (disch:=first|omega|(simp only[lenT];omega)) only[dT hlt,hc,wntR,sgR,evSt,↓eA,eB,evU,seval]
    refine hqy.then ?_
    cases z with
    | true =>
      rw[if_pos rfl] at he
      simp (disch:=first|omega|(simp only[lenT];omega)) only[he,evSt,↓eA,eB,evU,seval]
    | false =>
      rw[if_neg (by simp)] at he
      simp (disch:=first|omega|(simp only[lenT];omega)) only[wrap_i64,hk1,evSt,↓eA,eB,evU,seval]
      exact ⟨k + 1,⟨by omega,he⟩,by omega,rfl⟩
theorem anyW_A (l : List Wnt) (q : Wnt → Bool) (g : FuncId) (caps : List V) (S : Store) (hq : ∀ x ∈ l,CallA Tryz.prog g (.agg (wntR x) :: caps) S fun r S'=>r = .bool (q x) ∧ S' = S) :
    CallA Tryz.prog 46 [.sl 8 (l.map wntR),.func g [] caps] S fun r S'=>r = .bool (l.any q) ∧ S' = S:=by
  refine sl_len (fun hm=>?_) ⟨Tryz.f46,Tryz.func46,by kernel_rfl,by kernel_rfl⟩
  rw[List.length_map] at hm
  refine CallA.keep Tryz.func46 c5201 (Nat.le_of_ble_eq_true rfl) fun σ hσ=>?_
  simp (disch:=first|omega|(simp only[lenT];omega)) only[a5201,evSt,↓eA,eB,evU,seval]
  refine (indexW_A l q g caps (mx _ hm) S hq).then ?_
  simp (disch:=first|omega|(simp only[lenT];omega)) only[ix_any,evSt,↓eA,eB,evU,seval]
theorem indexC_A (l : List Cnd) (q : Cnd → Bool) (g : FuncId) (caps : List V) (hl : l.length ≤ 9223372036854775807) (S : Store) (hq : ∀ x ∈ l,CallA Tryz.prog g (.agg x.row :: caps) S fun r S'=>r = .bool (q x) ∧ S' = S) :
    CallA Tryz.prog 129 [.sl 8 (l.map Cnd.row),.func g [] caps] S fun r S'=>r = .int .i64 (ixF q l 0) ∧ S' = S:=by
  refine CallA.keep Tryz.func129 c5211 (Nat.le_of_ble_eq_true rfl) fun σ hσ=>?_
  simp (disch:=first|omega|(simp only[lenT];omega)) only[a5211,evSt,↓eA,eB,evU,seval]
  refine loopA (ι:=Nat) (fun k=>[(0,.sl 8 (l.map Cnd.row)),(1,.func g [] caps),(7,.int .i64 l.length),(8,.int .i64 (k : Nat))]) (fun _=>S) (fun k=>k ≤ l.length ∧ ixF q l 0 = ixF q (l.drop k) k) (fun k=>l.length - k) 0 ⟨Nat.zero_le _,rfl⟩ ?_ rfl ?_
  · simp only[↓eA,eB,evU,seval]
  rintro k ⟨hk,he⟩
  cases hc : l[k]? with
  | none =>
    have hge : l.length ≤ k:=List.getElem?_eq_none_iff.1 hc
    have hlt : ¬ ((k : Int) < l.length):=by omega
    rw[List.drop_eq_nil_of_le hge] at he
    simp (disch:=first|omega|(simp only[lenT];omega)) only[dF hlt,he,ixF,evSt,↓eA,eB,evU,seval]
  | some y =>
    have hlt':=(List.getElem?_eq_some_iff.1 hc).1
    have hlt : (k : Int) < l.length:=by omega
    have hk1 : (k : Int) + 1 = ((k + 1 : Nat) : Int):=by omega
    have hqy:=hq y (List.mem_of_getElem? hc)
    rw[drop_at hc,ixF] at he
    generalize hz : q y = z at he hqy
    obtain ⟨c1,c2,c3,c4,c5,c6⟩:=y
    try simp only[Cnd.row] at hqy
    simp (disch:=first|omega|(simp only[lenT];omega)) only[dT hlt,hc,Cnd.row,evSt,↓eA,eB,evU,seval]
    refine hqy.then ?_
    cases z with
    | true =>
      rw[if_pos rfl] at he
      simp (disch:=first|omega|(simp only[lenT];omega)) only[he,evSt,↓eA,eB,evU,seval]
    | false =>
      rw[if_neg (by simp)] at he
      simp (disch:=first|omega|(simp only[lenT];omega)) only[wrap_i64,hk1,evSt,↓eA,eB,evU,seval]
      exact ⟨k + 1,⟨by omega,he⟩,by omega,rfl⟩
theorem anyC_A (l : List Cnd) (q : Cnd → Bool) (g : FuncId) (caps : List V) (S : Store) (hq : ∀ x ∈ l,CallA Tryz.prog g (.agg x.row :: caps) S fun r S'=>r = .bool (q x) ∧ S' = S) :
    CallA Tryz.prog 102 [.sl 8 (l.map Cnd.row),.func g [] caps] S fun r S'=>r = .bool (l.any q) ∧ S' = S:=by
  refine sl_len (fun hm=>?_) ⟨Tryz.f102,Tryz.func102,by kernel_rfl,by kernel_rfl⟩
  rw[List.length_map] at hm
  refine CallA.keep Tryz.func102 c5205 (Nat.le_of_ble_eq_true rfl) fun σ hσ=>?_
  simp (disch:=first|omega|(simp only[lenT];omega)) only[a5205,evSt,↓eA,eB,evU,seval]
  refine (indexC_A l q g caps (mx _ hm) S hq).then ?_
  simp (disch:=first|omega|(simp only[lenT];omega)) only[ix_any,evSt,↓eA,eB,evU,seval]
theorem indexI_A (l : List Int) (q : Int → Bool) (g : FuncId) (caps : List V) (hl : l.length ≤ 9223372036854775807) (S : Store) (hq : ∀ x ∈ l,CallA Tryz.prog g (.int .i64 x :: caps) S fun r S'=>r = .bool (q x) ∧ S' = S) :
    CallA Tryz.prog 134 [.sl 1 (l.map inR),.func g [] caps] S fun r S'=>r = .int .i64 (ixF q l 0) ∧ S' = S:=by
  refine CallA.keep Tryz.func134 c5213 (Nat.le_of_ble_eq_true rfl) fun σ hσ=>?_
  simp (disch:=first|omega|(simp only[lenT];omega)) only[a5213,evSt,↓eA,eB,evU,seval]
  refine loopA (ι:=Nat) (fun k=>[(0,.sl 1 (l.map inR)),(1,.func g [] caps),(7,.int .i64 l.length),(8,.int .i64 (k : Nat))]) (fun _=>S) (fun k=>k ≤ l.length ∧ ixF q l 0 = ixF q (l.drop k) k) (fun k=>l.length - k) 0 ⟨Nat.zero_le _,rfl⟩ ?_ rfl ?_
  · simp only[↓eA,eB,evU,seval]
  rintro k ⟨hk,he⟩
  cases hc : l[k]? with
  | none =>
    have hge : l.length ≤ k:=List.getElem?_eq_none_iff.1 hc
    have hlt : ¬ ((k : Int) < l.length):=by omega
    rw[List.drop_eq_nil_of_le hge] at he
    simp (disch:=first|omega|(simp only[lenT];omega)) only[dF hlt,he,ixF,evSt,↓eA,eB,evU,seval]
  | some y =>
    have hlt':=(List.getElem?_eq_some_iff.1 hc).1
    have hlt : (k : Int) < l.length:=by omega
    have hk1 : (k : Int) + 1 = ((k + 1 : Nat) : Int):=by omega
    have hqy:=hq y (List.mem_of_getElem? hc)
    rw[drop_at hc,ixF] at he
    generalize hz : q y = z at he hqy
    try simp only[inR] at hqy
    simp (disch:=first|omega|(simp only[lenT];omega)) only[dT hlt,hc,inR,evSt,↓eA,eB,evU,seval]
    refine hqy.then ?_
    cases z with
    | true =>
      rw[if_pos rfl] at he
      simp (disch:=first|omega|(simp only[lenT];omega)) only[he,evSt,↓eA,eB,evU,seval]
    | false =>
      rw[if_neg (by simp)] at he
      simp (disch:=first|omega|(simp only[lenT];omega)) only[wrap_i64,hk1,evSt,↓eA,eB,evU,seval]
      exact ⟨k + 1,⟨by omega,he⟩,by omega,rfl⟩
theorem anyI_A (l : List Int) (q : Int → Bool) (g : FuncId) (caps : List V) (S : Store) (hq : ∀ x ∈ l,CallA Tryz.prog g (.int .i64 x :: caps) S fun r S'=>r = .bool (q x) ∧ S' = S) :
    CallA Tryz.prog 105 [.sl 1 (l.map inR),.func g [] caps] S fun r S'=>r = .bool (l.any q) ∧ S' = S:=by
  refine sl_len (fun hm=>?_) ⟨Tryz.f105,Tryz.func105,by kernel_rfl,by kernel_rfl⟩
  rw[List.length_map] at hm
  refine CallA.keep Tryz.func105 c5206 (Nat.le_of_ble_eq_true rfl) fun σ hσ=>?_
  simp (disch:=first|omega|(simp only[lenT];omega)) only[a5206,evSt,↓eA,eB,evU,seval]
  refine (indexI_A l q g caps (mx _ hm) S hq).then ?_
  simp (disch:=first|omega|(simp only[lenT];omega)) only[ix_any,evSt,↓eA,eB,evU,seval]
theorem indexS_A (l : List Txt) (q : Txt → Bool) (g : FuncId) (caps : List V) (hl : l.length ≤ 9223372036854775807) (S : Store) (hq : ∀ x ∈ l,CallA Tryz.prog g (.str x :: caps) S fun r S'=>r = .bool (q x) ∧ S' = S) :
    CallA Tryz.prog 143 [.sl 1 (l.map txR),.func g [] caps] S fun r S'=>r = .int .i64 (ixF q l 0) ∧ S' = S:=by
  refine CallA.keep Tryz.func143 c5217 (Nat.le_of_ble_eq_true rfl) fun σ hσ=>?_
  simp (disch:=first|omega|(simp only[lenT];omega)) only[a5217,evSt,↓eA,eB,evU,seval]
  refine loopA (ι:=Nat) (fun k=>[(0,.sl 1 (l.map txR)),(1,.func g [] caps),(7,.int .i64 l.length),(8,.int .i64 (k : Nat))]) (fun _=>S) (fun k=>k ≤ l.length ∧ ixF q l 0 = ixF q (l.drop k) k) (fun k=>l.length - k) 0 ⟨Nat.zero_le _,rfl⟩ ?_ rfl ?_
  · simp only[↓eA,eB,evU,seval]
  rintro k ⟨hk,he⟩
  cases hc : l[k]? with
  | none =>
    have hge : l.length ≤ k:=List.getElem?_eq_none_iff.1 hc
    have hlt : ¬ ((k : Int) < l.length):=by omega
    rw[List.drop_eq_nil_of_le hge] at he
    simp (disch:=first|omega|(simp only[lenT];omega)) only[dF hlt,he,ixF,evSt,↓eA,eB,evU,seval]
  | some y =>
    have hlt':=(List.getElem?_eq_some_iff.1 hc).1
    have hlt : (k : Int) < l.length:=by omega
    have hk1 : (k : Int) + 1 = ((k + 1 : Nat) : Int):=by omega
    have hqy:=hq y (List.mem_of_getElem? hc)
    rw[drop_at hc,ixF] at he
    generalize hz : q y = z at he hqy
    try simp only[txR] at hqy
    simp (disch:=first|omega|(simp only[lenT];omega)) only[dT hlt,hc,txR,evSt,↓eA,eB,evU,seval]
    refine hqy.then ?_
    cases z with
    | true =>
      rw[if_pos rfl] at he
      simp (disch:=first|omega|(simp only[lenT];omega)) only[he,evSt,↓eA,eB,evU,seval]
    | false =>
      rw[if_neg (by simp)] at he
      simp (disch:=first|omega|(simp only[lenT];omega)) only[wrap_i64,hk1,evSt,↓eA,eB,evU,seval]
      exact ⟨k + 1,⟨by omega,he⟩,by omega,rfl⟩
theorem anyS_A (l : List Txt) (q : Txt → Bool) (g : FuncId) (caps : List V) (S : Store) (hq : ∀ x ∈ l,CallA Tryz.prog g (.str x :: caps) S fun r S'=>r = .bool (q x) ∧ S' = S) :
    CallA Tryz.prog 132 [.sl 1 (l.map txR),.func g [] caps] S fun r S'=>r = .bool (l.any q) ∧ S' = S:=by
  refine sl_len (fun hm=>?_) ⟨Tryz.f132,Tryz.func132,by kernel_rfl,by kernel_rfl⟩
  rw[List.length_map] at hm
  refine CallA.keep Tryz.func132 c5212 (Nat.le_of_ble_eq_true rfl) fun σ hσ=>?_
  simp (disch:=first|omega|(simp only[lenT];omega)) only[a5212,evSt,↓eA,eB,evU,seval]
  refine (indexS_A l q g caps (mx _ hm) S hq).then ?_
  simp (disch:=first|omega|(simp only[lenT];omega)) only[ix_any,evSt,↓eA,eB,evU,seval]
theorem ixET_A (l : List Txt) (s : Txt) (hl : l.length ≤ 9223372036854775807) (S : Store) :
    CallA Tryz.prog 135 [.sl 1 (l.map txR),.str s] S fun r S'=>r = .int .i64 (ixF (fun x=>decide (s = x)) l 0) ∧ S' = S:=by
  refine CallA.keep Tryz.func135 c5214 (Nat.le_of_ble_eq_true rfl) fun σ hσ=>?_
  simp (disch:=first|omega|(simp only[lenT];omega)) only[a5214,txR,evSt,↓eA,eB,evU,seval]
  refine loopA (ι:=Nat) (fun k=>[(0,.sl 1 (l.map txR)),(1,.str s),(7,.int .i64 l.length),(8,.int .i64 (k : Nat))]) (fun _=>S) (fun k=>k ≤ l.length ∧ ixF (fun x=>decide (s = x)) l 0 = ixF (fun x=>decide (s = x)) (l.drop k) k) (fun k=>l.length - k) 0 ⟨Nat.zero_le _,rfl⟩ ?_ rfl ?_
  · simp only[txR,↓eA,eB,evU,seval]
    try rfl
  rintro k ⟨hk,he⟩
  cases hc : l[k]? with
  | none =>
    have hge : l.length ≤ k:=List.getElem?_eq_none_iff.1 hc
    have hlt : ¬ ((k : Int) < l.length):=by omega
    rw[List.drop_eq_nil_of_le hge] at he
    simp (disch:=first|omega|(simp only[lenT];omega)) only[dF hlt,he,ixF,evSt,↓eA,eB,evU,seval]
  | some y =>
    have hlt':=(List.getElem?_eq_some_iff.1 hc).1
    have hlt : (k : Int) < l.length:=by omega
    have hk1 : (k : Int) + 1 = ((k + 1 : Nat) : Int):=by omega
    rw[drop_at hc,ixF] at he
    by_cases hy : s = y
    · subst hy
      rw[if_pos (by simp)] at he
      simp (disch:=first|omega|(simp only[lenT];omega)) only[dT hlt,hc,txR,he,eq_self,Bool.and_self,evSt,↓eA,eB,evU,seval]
    · rw[if_neg (by simp [hy])] at he
      have hy2:=hy
      simp (disch:=first|omega|(simp only[lenT];omega)) only[dT hlt,hc,txR,dF hy2,wrap_i64,hk1,evSt,↓eA,eB,evU,seval]
      exact ⟨k + 1,⟨by omega,he⟩,by omega,rfl⟩
theorem hasT_A (l : List Txt) (s : Txt) (S : Store) :
    CallA Tryz.prog 107 [.sl 1 (l.map txR),.str s] S fun r S'=>r = .bool (l.contains s) ∧ S' = S:=by
  refine sl_len (fun hm=>?_) ⟨Tryz.f107,Tryz.func107,by kernel_rfl,by kernel_rfl⟩
  rw[List.length_map] at hm
  refine CallA.keep Tryz.func107 c5207 (Nat.le_of_ble_eq_true rfl) fun σ hσ=>?_
  have hx:=ixET_A l s (mx _ hm) S
  
  simp (disch:=first|omega|(simp only[lenT];omega)) only[a5207,txR,evSt,↓eA,eB,evU,seval]
  refine hx.then ?_
  have e : (l.any fun x=>decide (s = x)) = l.contains s:=by
    rw[Bool.eq_iff_iff,List.any_eq_true,List.contains_iff_mem]
    simp only[decide_eq_true_eq]
    constructor
    · rintro ⟨x,h1,rfl⟩;exact h1
    · exact fun h=>⟨s,h,rfl⟩
  simp (disch:=first|omega|(simp only[lenT];omega)) only[ix_any,e,evSt,↓eA,eB,evU,seval]
theorem ixEL_A (l : List (Txt × Txt)) (s : (Txt × Txt)) (hl : l.length ≤ 9223372036854775807) (S : Store) :
    CallA Tryz.prog 136 [.sl 2 (l.map lnkR),.agg (lnkR s)] S fun r S'=>r = .int .i64 (ixF (fun x=>decide (s = x)) l 0) ∧ S' = S:=by
  refine CallA.keep Tryz.func136 c5215 (Nat.le_of_ble_eq_true rfl) fun σ hσ=>?_
  simp (disch:=first|omega|(simp only[lenT];omega)) only[a5215,lnkR,evSt,↓eA,eB,evU,seval]
  refine loopA (ι:=Nat) (fun k=>[(0,.sl 2 (l.map lnkR)),(3,.cptr [.str s.1,.str s.2]),(7,.int .i64 l.length),(8,.int .i64 (k : Nat))]) (fun _=>S) (fun k=>k ≤ l.length ∧ ixF (fun x=>decide (s = x)) l 0 = ixF (fun x=>decide (s = x)) (l.drop k) k) (fun k=>l.length - k) 0 ⟨Nat.zero_le _,rfl⟩ ?_ rfl ?_
  · simp only[lnkR,↓eA,eB,evU,seval]
    try rfl
  rintro k ⟨hk,he⟩
  cases hc : l[k]? with
  | none =>
    have hge : l.length ≤ k:=List.getElem?_eq_none_iff.1 hc
    have hlt : ¬ ((k : Int) < l.length):=by omega
    rw[List.drop_eq_nil_of_le hge] at he
    simp (disch:=first|omega|(simp only[lenT];omega)) only[dF hlt,he,ixF,evSt,↓eA,eB,evU,seval]
  | some y =>
    have hlt':=(List.getElem?_eq_some_iff.1 hc).1
    have hlt : (k : Int) < l.length:=by omega
    have hk1 : (k : Int) + 1 = ((k + 1 : Nat) : Int):=by omega
    rw[drop_at hc,ixF] at he
    by_cases hy : s = y
    · subst hy
      rw[if_pos (by simp)] at he
      simp (disch:=first|omega|(simp only[lenT];omega)) only[dT hlt,hc,lnkR,he,eq_self,Bool.and_self,evSt,↓eA,eB,evU,seval]
    · rw[if_neg (by simp [hy])] at he
      have hy2 : (decide (s.1 = y.1) && decide (s.2 = y.2)) = false:=by
        rw[Bool.eq_false_iff];intro h;simp only[Bool.and_eq_true,decide_eq_true_eq] at h;exact hy (Prod.ext h.1 h.2)
      simp (disch:=first|omega|(simp only[lenT];omega)) only[dT hlt,hc,lnkR,hy2,wrap_i64,hk1,evSt,↓eA,eB,evU,seval]
      exact ⟨k + 1,⟨by omega,he⟩,by omega,rfl⟩
theorem hasL_A (l : List (Txt × Txt)) (s : (Txt × Txt)) (S : Store) :
    CallA Tryz.prog 108 [.sl 2 (l.map lnkR),.agg (lnkR s)] S fun r S'=>r = .bool (l.contains s) ∧ S' = S:=by
  refine sl_len (fun hm=>?_) ⟨Tryz.f108,Tryz.func108,by kernel_rfl,by kernel_rfl⟩
  rw[List.length_map] at hm
  refine CallA.keep Tryz.func108 c5208 (Nat.le_of_ble_eq_true rfl) fun σ hσ=>?_
  have hx:=ixEL_A l s (mx _ hm) S
  simp only[lnkR] at hx
  simp (disch:=first|omega|(simp only[lenT];omega)) only[a5208,lnkR,evSt,↓eA,eB,evU,seval]
  refine hx.then ?_
  have e : (l.any fun x=>decide (s = x)) = l.contains s:=by
    rw[Bool.eq_iff_iff,List.any_eq_true,List.contains_iff_mem]
    simp only[decide_eq_true_eq]
    constructor
    · rintro ⟨x,h1,rfl⟩;exact h1
    · exact fun h=>⟨s,h,rfl⟩
  simp (disch:=first|omega|(simp only[lenT];omega)) only[ix_any,e,evSt,↓eA,eB,evU,seval]
end Go.Proofs.YtanmnoipikdplaaGreat
