/- Component: the four laws. -/
import Derived.Test.YtanmnoipikdplaaGreatWCnf
import Derived.Test.YtanmnoipikdplaaGreatWAlB
namespace Go.Proofs.YtanmnoipikdplaaGreat
open Go Go.AL
set_option linter.unusedSectionVars false
variable [Go.AL.Mode]
set_option linter.unusedSimpArgs false
set_option linter.unusedVariables false
theorem sml_pok {p : Pls} {t : Tar} {l : List Wnt} (h : Sml p t l) (hz : ∀ a ∈ p.1,ZnOk a.sh) : POk2 p:=⟨by have:=h.apts;omega,by have:=h.dsts;omega,hz⟩
theorem sml_tok {p : Pls} {t : Tar} {l : List Wnt} (h : Sml p t l) (hr : ∀ r ∈ t.rules,RulOk r) : TOk t:=⟨by have:=h.fares;omega,by have:=h.rules;omega,by have:=h.routs;omega,hr⟩
set_option maxHeartbeats 4000000 in
theorem right_A (p : Pls) (t : Tar) (tx : List (List V)) (ht : TSm t) (l : List Wnt) (S : Store) : CallA Tryz.prog 7 [plV p,.agg (tarV t tx),.sl 8 (l.map wntR)] S fun v S'=>∃ b,v = .bool b ∧ (b = true → Sml p t l ∧ (∀ a ∈ p.1,ZnOk a.sh) ∧ ∀ r ∈ t.rules,RulOk r) ∧ S' = S:=by
  refine CallA.keep Tryz.func7 c5006 (Nat.le_of_ble_eq_true rfl) fun σ hσ=>?_
  have bg:=fun S=>big_A p t tx l S
  have zp:=fun h1 h2 S=>rplaces2_A p h1 h2 S
  have ck:=fun h0 h1 h2 h3 S=>check24_A p h0 t tx ht h1 h2 h3 S
  simp only[plV,tarV] at bg zp ck ⊢
  simp (disch:=first|omega|(simp only[lenT];omega)) only[a5006,evSt,↓eA,eB,evU,seval]
  refine (bg _).mono ?_
  rintro _ S2 ⟨b,rfl,hb,hS2⟩
  rw[hS2]
  clear hS2 S2
  cases b
  case true =>
    simp (disch:=first|omega|(simp only[lenT];omega)) only[evSt,↓eA,eB,evU,seval]
    exact ⟨_,rfl,fun h=>by cases h⟩
  have hs:=hb rfl
  simp (disch:=first|omega|(simp only[lenT];omega)) only[evSt,↓eA,eB,evU,seval]
  refine (zp (by have:=hs.apts;omega) (by have:=hs.dsts;omega) _).mono ?_
  rintro _ S2 ⟨fs,rfl,hz,hS2⟩
  rw[hS2]
  clear hS2 S2
  by_cases h0 : (fs.length : Int) = 0
  case neg =>
    simp (disch:=first|omega|(simp only[lenT];omega)) only[dF h0,evSt,↓eA,eB,evU,seval]
    exact ⟨_,rfl,fun h=>by cases h⟩
  simp (disch:=first|omega|(simp only[lenT];omega)) only[dT h0,evSt,↓eA,eB,evU,seval]
  refine (ck (by have:=hs.apts;omega) (by have:=hs.fares;omega) hs.rules hs.routs _).mono ?_
  rintro _ S2 ⟨rows,rfl,hr,hS2⟩
  rw[hS2]
  clear hS2 S2
  by_cases h1 : (rows.length : Int) = 0
  · simp (disch:=first|omega|(simp only[lenT];omega)) only[dT h1,evSt,↓eA,eB,evU,seval]
    exact ⟨_,rfl,fun _=>⟨hs,hz (List.length_eq_zero_iff.1 (by omega)),hr (List.length_eq_zero_iff.1 (by omega))⟩⟩
  · simp (disch:=first|omega|(simp only[lenT];omega)) only[dF h1,evSt,↓eA,eB,evU,seval]
    exact ⟨_,rfl,fun h=>by cases h⟩
theorem cities_len (p : Pls) (l : List Wnt) : (citiesF p l).length ≤ l.length + 1:=by
  cases l<;>simp [citiesF]
theorem trip_len (p : Pls) (l : List Wnt) (ty : Txt) (sale : Int) : (tripF p l ty sale).cars.length ≤ l.length ∧ (tripF p l ty sale).nums.length ≤ l.length ∧ (tripF p l ty sale).vias.length ≤ l.length + 1:=by
  have h:=cities_len p l
  cases l with
  | nil=>simp [tripF]
  | cons w r =>
    simp only[tripF,List.length_map,List.length_dropLast,List.length_tail]
    omega
def caseV (p : Pls) (t : Tar) (tx : List (List V)) (at_ : Int) (l : List Wnt) (ty : Txt) (sale : Int) : List V :=
  [.sl 5 (p.1.map aptR),.sl 3 (p.2.map dstR),.sl 9 (t.fares.map frR),.sl 15 (t.rules.map rulR),.sl 3 (t.routs.map rouR),.sl 7 tx,.int .i64 at_,.sl 8 (l.map wntR),.str ty,.int .i64 sale]
def tar0 : Tar:=⟨[],[],[]⟩
set_option maxHeartbeats 4000000 in
set_option maxRecDepth 10000 in
theorem law_trips (p : Pls) (l : List Wnt) (ty : Txt) (sale : Int) (S : Store) : CallA Tryz.prog 3 [plV p,.sl 8 (l.map wntR),.str ty,.int .i64 sale] S fun r S'=>r = .bool true ∧ S' = S:=by
  refine CallA.keep Tryz.func3 c5001 (Nat.le_of_ble_eq_true rfl) fun σ hσ=>?_
  have rt:=fun S=>(right_A p tar0 [] ⟨by decide,by decide,by decide,(fun _ h=>by cases h),fun _ h=>by cases h⟩ l S).wk (args:=[plV p,.agg [.nilSl,.nilSl,.nilSl,.nilSl],.sl 8 (l.map wntR)]) ⟨.refl _,Wk.aggL ⟨.nil 9,.nil 15,.nil 3,.nil 7,trivial⟩,.refl _,trivial⟩
  have aw:=awake_A
  simp only[plV] at rt ⊢
  simp (disch:=first|omega|(simp only[lenT];omega)) only[a5001,evSt,↓eA,eB,evU,seval]
  refine (rt _).mono ?_
  rintro _ S2 ⟨b,rfl,hb,hS2⟩
  rw[hS2]
  clear hS2 S2
  cases b
  case false =>
    simp (disch:=first|omega|(simp only[lenT];omega)) only[evSt,↓eA,eB,evU,seval]
    refine (aw _).then ?_
    simp (disch:=first|omega|(simp only[lenT];omega)) only[evSt,↓eA,eB,evU,seval]
  obtain ⟨hs,hz,_⟩:=hb rfl
  have hl : l.length ≤ 8:=hs.segs
  have ci:=fun S=>cities_A p (by have:=hs.apts;omega) l hl S
  have rci:=fun S=>rcities_A p (by have:=hs.apts;omega) l hl S
  have tp:=fun S=>trip_A p (by have:=hs.apts;omega) hz l hl hs.w ty sale S
  have rtp:=fun S=>rtrip_A p (by have:=hs.apts;omega) hz l hl hs.w ty sale S
  have sm:=fun S=>same_A (citiesF p l) S
  have stp:=fun S=>sameTrip_A (tripF p l ty sale) (by have:=(trip_len p l ty sale).1;omega) (by have:=(trip_len p l ty sale).2.1;omega) (by have:=(trip_len p l ty sale).2.2;omega) S
  simp only[plV] at ci rci tp rtp
  by_cases ht : (100 : Int) < (ty.length : Nat)
  · simp (disch:=first|omega|(simp only[lenT];omega)) only[dT ht,evSt,↓eA,eB,evU,seval]
    refine (aw _).then ?_
    simp (disch:=first|omega|(simp only[lenT];omega)) only[evSt,↓eA,eB,evU,seval]
  simp (disch:=first|omega|(simp only[lenT];omega)) only[dF ht,evSt,↓eA,eB,evU,seval]
  refine exD.intro (ci _) ?_
  simp (disch:=first|omega|(simp only[lenT];omega)) only[evSt,↓eA,eB,evU,seval]
  refine (rci _).then ?_
  simp (disch:=first|omega|(simp only[lenT];omega)) only[evSt,↓eA,eB,evU,seval]
  refine (sm _).then ?_
  simp (disch:=first|omega|(simp only[lenT];omega)) only[evSt,↓eA,eB,evU,seval]
  refine exD.intro (tp _) ?_
  simp (disch:=first|omega|(simp only[lenT];omega)) only[evSt,↓eA,eB,evU,seval]
  refine (rtp _).then ?_
  simp (disch:=first|omega|(simp only[lenT];omega)) only[evSt,↓eA,eB,evU,seval]
  refine (stp _).then ?_
  simp (disch:=first|omega|(simp only[lenT];omega)) only[evSt,↓eA,eB,evU,seval]
  refine (aw _).then ?_
  simp (disch:=first|omega|(simp only[lenT];omega)) only[evSt,↓eA,eB,evU,seval]
set_option maxHeartbeats 4000000 in
set_option maxRecDepth 10000 in
theorem law_whys (p : Pls) (t : Tar) (tx : List (List V)) (hts : TSm t) (at_ : Int) (l : List Wnt) (ty : Txt) (sale : Int) (S : Store) : CallA Tryz.prog 4 [.agg (caseV p t tx at_ l ty sale)] S fun r S'=>r = .bool true ∧ S' = S:=by
  refine CallA.keep Tryz.func4 c5002 (Nat.le_of_ble_eq_true rfl) fun σ hσ=>?_
  have rt:=fun S=>right_A p t tx hts l S
  have aw:=awake_A
  have fr:=far_A sale
  simp only[plV,tarV] at rt
  simp (disch:=first|omega|(simp only[lenT];omega)) only[a5002,caseV,evSt,↓eA,eB,evU,seval]
  refine (rt _).mono ?_
  rintro _ S2 ⟨b,rfl,hb,hS2⟩
  rw[hS2]
  clear hS2 S2
  cases b
  case false =>
    simp (disch:=first|omega|(simp only[lenT];omega)) only[evSt,↓eA,eB,evU,seval]
    refine (aw _).then ?_
    simp (disch:=first|omega|(simp only[lenT];omega)) only[evSt,↓eA,eB,evU,seval]
  obtain ⟨hs,hz,hr⟩:=hb rfl
  have hp:=sml_pok hs hz
  have ht:=sml_tok hs hr
  have hl : l.length ≤ 8:=hs.segs
  have wy:=fun S=>why_A p hp t tx ht at_ l hl hs.w ty sale S
  have rwy:=fun S=>rwhy_A p hp t tx ht at_ l hl hs.w ty sale S
  have am:=fun S=>amount_A p hp t tx ht at_ l hl ty S
  have ram:=fun S=>ramount_A p hp t tx ht at_ l hl ty S
  simp only[plV,tarV] at wy rwy am ram
  simp (disch:=first|omega|(simp only[lenT];omega)) only[evSt,↓eA,eB,evU,seval]
  refine (fr _).then ?_
  generalize (decide (sale < -1099511627776) || decide (1099511627776 < sale)) = fb
  cases fb
  case true =>
    simp (disch:=first|omega|(simp only[lenT];omega)) only[evSt,↓eA,eB,evU,seval]
    refine (aw _).then ?_
    simp (disch:=first|omega|(simp only[lenT];omega)) only[evSt,↓eA,eB,evU,seval]
  by_cases hty : (100 : Int) < (ty.length : Nat)
  · simp (disch:=first|omega|(simp only[lenT];omega)) only[dT hty,evSt,↓eA,eB,evU,seval]
    refine (aw _).then ?_
    simp (disch:=first|omega|(simp only[lenT];omega)) only[evSt,↓eA,eB,evU,seval]
  simp (disch:=first|omega|(simp only[lenT];omega)) only[dF hty,evSt,↓eA,eB,evU,seval]
  refine (am _).then ?_
  simp (disch:=first|omega|(simp only[lenT];omega)) only[evSt,↓eA,eB,evU,seval]
  refine (ram _).then ?_
  simp (disch:=first|omega|(simp only[lenT];omega)) only[evSt,↓eA,eB,evU,seval]
  refine exD.intro (wy _) ?_
  simp (disch:=first|omega|(simp only[lenT];omega)) only[evSt,↓eA,eB,evU,seval]
  refine (rwy _).then ?_
  simp (disch:=first|omega|(simp only[lenT];omega)) only[eq_self,evSt,↓eA,eB,evU,seval]
  refine (aw _).then ?_
  simp (disch:=first|omega|(simp only[lenT];omega)) only[evSt,↓eA,eB,evU,seval]
end Go.Proofs.YtanmnoipikdplaaGreat
/- Component: the laws Fares and Order. -/
namespace Go.Proofs.YtanmnoipikdplaaGreat
open Go Go.AL
set_option linter.unusedSectionVars false
variable [Go.AL.Mode]
set_option linter.unusedSimpArgs false
set_option linter.unusedVariables false
def cntP (p : Pls) (t : Tar) (l : List Wnt) (ty : Txt) (sale : Int) (i : Nat) : Nat:=(partsF p t l ty sale i).length
theorem cntP_step (p : Pls) (t : Tar) (l : List Wnt) (ty : Txt) (sale : Int) (i : Nat) : cntP p t l ty sale (i + 1) = cntP p t l ty sale i + if (amountF p t i l ty).2 = 0 ∧ whyF p t i l ty sale = 0 then 1 else 0:=by
  unfold cntP
  rw[parts_step,List.length_append]
  by_cases h1 : (amountF p t i l ty).2 = 0<;>by_cases h2 : whyF p t i l ty sale = 0<;>simp [goodF,h1,h2]
set_option maxHeartbeats 4000000 in
set_option maxRecDepth 10000 in
theorem law_fares (p : Pls) (t : Tar) (tx : List (List V)) (hts : TSm t) (at_ : Int) (l : List Wnt) (ty : Txt) (sale : Int) (S : Store) : CallA Tryz.prog 5 [.agg (caseV p t tx at_ l ty sale)] S fun r S'=>r = .bool true ∧ S' = S:=by
  refine CallA.keep Tryz.func5 c5003 (Nat.le_of_ble_eq_true rfl) fun σ hσ=>?_
  have rt:=fun S=>right_A p t tx hts l S
  have aw:=awake_A
  have fr:=far_A sale
  simp only[plV,tarV] at rt
  simp (disch:=first|omega|(simp only[lenT];omega)) only[a5003,caseV,evSt,↓eA,eB,evU,seval]
  refine (rt _).mono ?_
  rintro _ S2 ⟨b,rfl,hb,hS2⟩
  rw[hS2]
  clear hS2 S2
  cases b
  case false =>
    simp (disch:=first|omega|(simp only[lenT];omega)) only[evSt,↓eA,eB,evU,seval]
    refine (aw _).then ?_
    simp (disch:=first|omega|(simp only[lenT];omega)) only[evSt,↓eA,eB,evU,seval]
  obtain ⟨hs,hz,hr⟩:=hb rfl
  have hp:=sml_pok hs hz
  have ht:=sml_tok hs hr
  have hl : l.length ≤ 8:=hs.segs
  simp (disch:=first|omega|(simp only[lenT];omega)) only[evSt,↓eA,eB,evU,seval]
  refine (fr _).then ?_
  generalize (decide (sale < -1099511627776) || decide (1099511627776 < sale)) = fb
  cases fb
  case true =>
    simp (disch:=first|omega|(simp only[lenT];omega)) only[evSt,↓eA,eB,evU,seval]
    refine (aw _).then ?_
    simp (disch:=first|omega|(simp only[lenT];omega)) only[evSt,↓eA,eB,evU,seval]
  by_cases hty : (100 : Int) < (ty.length : Nat)
  · simp (disch:=first|omega|(simp only[lenT];omega)) only[dT hty,evSt,↓eA,eB,evU,seval]
    refine (aw _).then ?_
    simp (disch:=first|omega|(simp only[lenT];omega)) only[evSt,↓eA,eB,evU,seval]
  have fa:=fun S=>fares_A p hp t tx ht l hl hs.w ty sale S
  have rfa:=fun S=>rfares_A p hp t tx ht l hl hs.w ty sale S
  have wy:=fun i S=>why_A p hp t tx ht i l hl hs.w ty sale S
  have am:=fun i S=>amount_A p hp t tx ht i l hl ty S
  simp only[plV,tarV] at fa rfa wy am
  simp (disch:=first|omega|(simp only[lenT];omega)) only[dF hty,evSt,↓eA,eB,evU,seval]
  refine (fa _).mono ?_
  rintro _ S2 ⟨L,rfl,⟨hL1,hL2⟩,hS2⟩
  rw[hS2]
  clear hS2 S2
  simp (disch:=first|omega|(simp only[lenT];omega)) only[evSt,↓eA,eB,evU,seval]
  refine (rfa _).mono ?_
  rintro _ S2 ⟨M,rfl,⟨hM1,hM2⟩,hS2⟩
  rw[hS2]
  clear hS2 S2
  have hLM : M = L:=srtP_unique parts_inj hM1 hL1 hM2 hL2
  subst hLM
  have hlen : M.length = cntP p t l ty sale t.fares.length:=hL2.length_eq
  have hll : M.length ≤ 1000:=by
    have:=parts_len (p:=p) (t:=t) (l:=l) (ty:=ty) (sale:=sale) t.fares.length
    have:=ht.fares
    unfold cntP at hlen
    omega
  clear hL1 hL2 hM1 hM2 fa rfa
  simp (disch:=first|omega|(simp only[lenT];omega)) only[eq_self,evSt,↓eA,eB,evU,seval]
  obtain ⟨c1,hc1⟩ : ∃ c1,c1 = V.cptr [.sl 5 (p.1.map aptR),.sl 3 (p.2.map dstR),.sl 9 (t.fares.map frR),.sl 15 (t.rules.map rulR),.sl 3 (t.routs.map rouR),.sl 7 tx,.int .i64 at_,.sl 8 (l.map wntR),.str ty,.int .i64 sale]:=⟨_,rfl⟩
  refine loopA (ι:=Nat) (fun k=>[(1,c1),(3,.sl 4 (M.map prtR)),(4,.sl 4 (M.map prtR)),(5,.int .i64 0),(6,.int .i64 (k : Nat))]) (fun _=>S) (fun k=>k ≤ M.length) (fun k=>M.length - k) 0 (Nat.zero_le _) ?_ rfl ?_
  · simp only[hc1,↓eA,eB,evU,seval]
    try rfl
  intro k hk
  cases hc : M[k]? with
  | some y =>
    have hlt':=(List.getElem?_eq_some_iff.1 hc).1
    have hlt : (k : Int) < M.length:=by omega
    have hk1 : (k : Int) + 1 = ((k + 1 : Nat) : Int):=by omega
    simp (disch:=first|omega|(simp only[lenT];omega)) only[dT hlt,hc,prtR,eq_self,wrap_i64,hk1,evSt,↓eA,eB,evU,seval]
    exact ⟨k + 1,by omega,by omega,by first | rfl | exact ⟨rfl,rfl⟩ | exact ⟨rfl,rfl,rfl⟩ | (simp only[hc1];exact ⟨rfl,rfl⟩)⟩
  | none =>
  have hge:=List.getElem?_eq_none_iff.1 hc
  have hlt : ¬ ((k : Int) < M.length):=by omega
  simp (disch:=first|omega|(simp only[lenT];omega)) only[dF hlt,evSt,↓eA,eB,evU,seval]
  refine loopA (ι:=Nat) (fun k=>[(1,c1),(3,.sl 4 (M.map prtR)),(5,.int .i64 (cntP p t l ty sale k : Nat)),(7,.int .i64 (k : Nat))]) (fun _=>S) (fun k=>k ≤ t.fares.length) (fun k=>t.fares.length - k) 0 (Nat.zero_le _) ?_ rfl ?_
  · simp only[↓eA,eB,evU,seval]
    try rfl
  clear hc hge hlt hk k
  intro k hk
  by_cases hlt : (k : Int) < t.fares.length
  · have hk1 : (k : Int) + 1 = ((k + 1 : Nat) : Int):=by omega
    have hcl : cntP p t l ty sale k ≤ k:=parts_len k
    have hst:=cntP_step p t l ty sale k
    have htf:=ht.fares
    have hk2 : (cntP p t l ty sale k : Int) + 1 = ((cntP p t l ty sale k + 1 : Nat) : Int):=by omega
    simp (disch:=first|omega|(simp only[lenT];omega)) only[hc1,dT hlt,evSt,↓eA,eB,evU,seval]
    refine (am k _).then ?_
    by_cases h1 : (amountF p t k l ty).2 = 0
    · simp (disch:=first|omega|(simp only[lenT];omega)) only[dT h1,evSt,↓eA,eB,evU,seval]
      refine (wy k _).then ?_
      by_cases h2 : whyF p t k l ty sale = 0
      · rw[if_pos ⟨h1,h2⟩] at hst
        simp (disch:=first|omega|(simp only[lenT];omega)) only[dT h2,wrap_i64,hk1,hk2,evSt,↓eA,eB,evU,seval]
        exact ⟨k + 1,by omega,by omega,by rw[hst];first | rfl | exact ⟨rfl,rfl⟩ | exact ⟨rfl,rfl,rfl⟩⟩
      · rw[if_neg fun h=>h2 h.2,Nat.add_zero] at hst
        simp (disch:=first|omega|(simp only[lenT];omega)) only[dF h2,wrap_i64,hk1,hk2,evSt,↓eA,eB,evU,seval]
        exact ⟨k + 1,by omega,by omega,by rw[hst];first | rfl | exact ⟨rfl,rfl⟩ | exact ⟨rfl,rfl,rfl⟩⟩
    · rw[if_neg fun h=>h1 h.1,Nat.add_zero] at hst
      simp (disch:=first|omega|(simp only[lenT];omega)) only[dF h1,wrap_i64,hk1,hk2,evSt,↓eA,eB,evU,seval]
      exact ⟨k + 1,by omega,by omega,by rw[hst];first | rfl | exact ⟨rfl,rfl⟩ | exact ⟨rfl,rfl,rfl⟩⟩
  · have hkl : k = t.fares.length:=by omega
    have hq : ((cntP p t l ty sale k : Nat) : Int) = (M.length : Nat):=by rw[hkl,hlen]
    simp (disch:=first|omega|(simp only[lenT];omega)) only[hc1,dF hlt,dT hq,evSt,↓eA,eB,evU,seval]
    refine (aw _).then ?_
    simp (disch:=first|omega|(simp only[lenT];omega)) only[evSt,↓eA,eB,evU,seval]
def revT (t : Tar) : Tar:=⟨t.fares.reverse,t.rules,t.routs⟩
theorem rev_get {t : Tar} {i : Nat} (h : i < t.fares.length) : (revT t).fares[t.fares.length - 1 - i]? = t.fares[i]?:=by
  unfold revT
  rw[List.getElem?_reverse (by omega)]
  congr 1
  omega
theorem rev_why {p : Pls} {t : Tar} {i j : Int} {l : List Wnt} {ty : Txt} {sale : Int} (h0 : 0 ≤ i) (h1 : i < (t.fares.length : Nat)) (hj : j = (t.fares.length : Nat) - 1 - i) : whyF p (revT t) j l ty sale = whyF p t i l ty sale:=by
  have e : (revT t).fares[j.toNat]? = t.fares[i.toNat]?:=by
    rw[show j.toNat = t.fares.length - 1 - i.toNat by omega]
    exact rev_get (by omega)
  have hi : ¬ i < 0:=by omega
  have hj' : ¬ j < 0:=by omega
  unfold whyF
  simp only[hi,hj',or_false,e]
  rfl
theorem rev_am {p : Pls} {t : Tar} {i j : Int} {l : List Wnt} {ty : Txt} (h0 : 0 ≤ i) (h1 : i < (t.fares.length : Nat)) (hj : j = (t.fares.length : Nat) - 1 - i) : amountF p (revT t) j l ty = amountF p t i l ty:=by
  have e : (revT t).fares[j.toNat]? = t.fares[i.toNat]?:=by
    rw[show j.toNat = t.fares.length - 1 - i.toNat by omega]
    exact rev_get (by omega)
  have hi : ¬ i < 0:=by omega
  have hj' : ¬ j < 0:=by omega
  unfold amountF
  simp only[hi,hj',or_false,e]
  rfl
theorem frR_imm (l : List Fr) : ∀ r ∈ l.map frR,r.length = 9 ∧ V.allImm r = true:=fun r hr=>by
  obtain ⟨f,_,rfl⟩:=List.mem_map.1 hr
  exact ⟨rfl,rfl⟩
set_option maxHeartbeats 4000000 in
set_option maxRecDepth 10000 in
theorem law_order (p : Pls) (t : Tar) (tx : List (List V)) (hts : TSm t) (at_ : Int) (l : List Wnt) (ty : Txt) (sale : Int) (S : Store) : CallA Tryz.prog 6 [.agg (caseV p t tx at_ l ty sale)] S fun r S'=>r = .bool true ∧ S' = S:=by
  refine CallA.withNeat Tryz.func6 c5004 fun hn=>?_
  refine CallA.fin Tryz.func6 c5004 (Nat.le_of_ble_eq_true rfl) fun σ hσ=>?_
  have rt:=fun S=>right_A p t tx hts l S
  have aw:=awake_A
  have fr:=far_A sale
  simp only[plV,tarV] at rt
  simp (disch:=first|omega|(simp only[lenT];omega)) only[a5004,caseV,evSt,↓eA,eB,evU,seval]
  refine (rt _).mono ?_
  rintro _ S2 ⟨b,rfl,hb,hS2⟩
  rw[hS2]
  clear hS2 S2
  cases b
  case false =>
    simp (disch:=first|omega|(simp only[lenT];omega)) only[evSt,↓eA,eB,evU,seval]
    refine (aw _).then ?_
    simp (disch:=first|omega|(simp only[lenT];omega)) only[evSt,↓eA,eB,evU,seval]
    exact ⟨_,S,hn.self,.imm rfl,Nat.le_refl _,rfl,rfl⟩
  obtain ⟨hs,hz,hr⟩:=hb rfl
  have hp:=sml_pok hs hz
  have ht:=sml_tok hs hr
  have hl : l.length ≤ 8:=hs.segs
  simp (disch:=first|omega|(simp only[lenT];omega)) only[evSt,↓eA,eB,evU,seval]
  refine (fr _).then ?_
  generalize (decide (sale < -1099511627776) || decide (1099511627776 < sale)) = fb
  cases fb
  case true =>
    simp (disch:=first|omega|(simp only[lenT];omega)) only[evSt,↓eA,eB,evU,seval]
    refine (aw _).then ?_
    simp (disch:=first|omega|(simp only[lenT];omega)) only[evSt,↓eA,eB,evU,seval]
    exact ⟨_,S,hn.self,.imm rfl,Nat.le_refl _,rfl,rfl⟩
  by_cases hty : (100 : Int) < (ty.length : Nat)
  · simp (disch:=first|omega|(simp only[lenT];omega)) only[dT hty,evSt,↓eA,eB,evU,seval]
    refine (aw _).then ?_
    simp (disch:=first|omega|(simp only[lenT];omega)) only[evSt,↓eA,eB,evU,seval]
    exact ⟨_,S,hn.self,.imm rfl,Nat.le_refl _,rfl,rfl⟩
  by_cases ha0 : at_ < 0
  · simp (disch:=first|omega|(simp only[lenT];omega)) only[dF hty,dT ha0,evSt,↓eA,eB,evU,seval]
    refine (aw _).then ?_
    simp (disch:=first|omega|(simp only[lenT];omega)) only[evSt,↓eA,eB,evU,seval]
    exact ⟨_,S,hn.self,.imm rfl,Nat.le_refl _,rfl,rfl⟩
  by_cases ha1 : (t.fares.length : Int) ≤ at_
  · simp (disch:=first|omega|(simp only[lenT];omega)) only[dF hty,dF ha0,dT ha1,evSt,↓eA,eB,evU,seval]
    refine (aw _).then ?_
    simp (disch:=first|omega|(simp only[lenT];omega)) only[evSt,↓eA,eB,evU,seval]
    exact ⟨_,S,hn.self,.imm rfl,Nat.le_refl _,rfl,rfl⟩
  have htf:=ht.fares
  have ht2 : TOk (revT t):=⟨by simpa [revT] using ht.fares,ht.rules,ht.routs,ht.ok⟩
  have wy:=fun S=>why_A p hp t tx ht at_ l hl hs.w ty sale S
  have am:=fun S=>amount_A p hp t tx ht at_ l hl ty S
  have wy2:=fun j S=>why_A p hp (revT t) tx ht2 j l hl hs.w ty sale S
  have am2:=fun j S=>amount_A p hp (revT t) tx ht2 j l hl ty S
  simp only[plV,tarV] at wy am wy2 am2
  simp (disch:=first|omega|(simp only[lenT];omega)) only[dF hty,dF ha0,dF ha1,evSt,↓eA,eB,evU,seval]
  have hn1 : (t.fares.length : Int) - 1 = ((t.fares.length - 1 : Nat) : Int):=by omega
  obtain ⟨c1,hc1⟩ : ∃ c1,c1 = V.cptr [.sl 5 (p.1.map aptR),.sl 3 (p.2.map dstR),.sl 9 (t.fares.map frR),.sl 15 (t.rules.map rulR),.sl 3 (t.routs.map rouR),.sl 7 tx,.int .i64 at_,.sl 8 (l.map wntR),.str ty,.int .i64 sale]:=⟨_,rfl⟩
  obtain ⟨B,hB⟩ : ∃ B : Go.AL.Obj,B = ⟨0,some (.arr 33 4 [[.sl 9 (t.fares.map frR),.sl 15 (t.rules.map rulR),.sl 3 (t.routs.map rouR),.sl 7 tx]])⟩:=⟨_,rfl⟩
  have hnB : Neat (S ++ [B]):=neat_add hn (by subst hB;intro o ho;simp only[List.mem_singleton] at ho;subst ho;intro r hr;simp only[List.mem_singleton] at hr;subst hr;exact ⟨rfl,rfl⟩)
  have hob : (S ++ [B] : Store).obj? S.length 0 = some (33,4,[[.sl 9 (t.fares.map frR),.sl 15 (t.rules.map rulR),.sl 3 (t.routs.map rouR),.sl 7 tx]]):=by subst hB;exact ob_app0.trans ob_head
  rw[← hB]
  refine loopF (ι:=Nat × V × Store) (fun i=>[(1,c1),(3,.ptr S.length 0 0 0),(4,i.2.1),(5,.int .i64 ((t.fares.length : Int) - 1 - i.1))]) (fun i=>i.2.2)
    (fun i=>i.1 ≤ t.fares.length ∧ (∃ T,i.2.2 = S ++ [B] ++ T) ∧ (i.1 < t.fares.length → LG (S ++ [B]) 57 9 ((t.fares.reverse.take i.1).map frR) i.2.1 i.2.2) ∧ (i.1 = t.fares.length → i.2.1 = .sl 9 (t.fares.reverse.map frR) ∧ i.2.2 = S ++ [B])) (fun i=>t.fares.length - i.1)
    (fun i hi=>by rw[hσ];obtain ⟨T,hT⟩:=hi.2.1;rw[hT];simp) (0,.nilSl,S ++ [B]) ⟨Nat.zero_le _,⟨[],by simp⟩,fun _=>LG.nil0,fun h=>by simp only at h;omega⟩ (.inl ⟨?_,rfl⟩) ?_
  · simp only[hc1,↓eA,eB,evU,seval]
    first | rfl | omega | exact ⟨by rfl,by omega⟩ | (rw[wrap_i64 (by omega) (by omega)];simp) | simp
  rintro ⟨k,v,S1⟩ ⟨hk,⟨T,hT⟩,hg,hfr⟩
  simp only at hk hT hg hfr ⊢
  by_cases hkn : k < t.fares.length
  · have hg:=hg hkn
    have hbox : S1.obj? S.length 0 = some (33,4,[[.sl 9 (t.fares.map frR),.sl 15 (t.rules.map rulR),.sl 3 (t.routs.map rouR),.sl 7 tx]]):=by rw[hT];exact obj_add hob
    have hge : (0 : Int) ≤ (t.fares.length : Int) - 1 - k:=by omega
    have hix : (t.fares.length : Int) - 1 - k = ((t.fares.length - 1 - k : Nat) : Int):=by omega
    obtain ⟨f,hf⟩ : ∃ f,t.fares[t.fares.length - 1 - k]? = some f:=⟨_,List.getElem?_eq_getElem (by omega)⟩
    have hfr : t.fares.reverse[k]? = some f:=by rw[List.getElem?_reverse (by omega)];exact hf
    have hnx : ((t.fares.length - 1 - k : Nat) : Int) - 1 = (t.fares.length : Int) - 1 - ((k + 1 : Nat) : Int):=by omega
    have htk : ((t.fares.reverse.take (k + 1)).map frR) = (t.fares.reverse.take k).map frR ++ [frR f]:=by rw[take_at hfr];simp
    have hge' : (0 : Int) ≤ ((t.fares.length - 1 - k : Nat) : Int):=by omega
    rw[hix]
    simp (disch:=first|omega|(simp only[lenT];omega)) only[dT hge',hbox,hf,frR,evSt,↓eA,eB,evU,seval]
    refine hg.app (by simp;omega) fun v' S2 h2=>?_
    simp (disch:=first|omega|(simp only[lenT];omega)) only[wrap_i64,hnx,evSt,↓eA,eB,evU,seval]
    rw[show [[V.str f.c,.str f.f,.str f.t,.str f.bas,.str f.cl,.bool f.rnd,.int .i64 f.am,.int .i64 f.rule,.int .i64 f.rout]] = [frR f] from rfl,← htk] at h2
    by_cases hlast : k + 1 = t.fares.length
    · have hfin:=h2.fin hnB (frR_imm _)
      rw[List.take_of_length_le (by simp;omega)] at hfin
      exact ⟨(k + 1,.sl 9 (t.fares.reverse.map frR),S ++ [B]),⟨hlast ▸ Nat.le_refl _,⟨[],by simp⟩,fun h=>by simp only at h;omega,fun _=>⟨rfl,rfl⟩⟩,by simp only;omega,.inr ⟨hfin.1,by simp only[subF,↓eA,eB,evU,seval];exact ⟨.imm (hc1 ▸ rfl),.same (.inl (by simp [V.under])),hfin.2,.imm rfl⟩⟩⟩
    · exact ⟨(k + 1,v',S2),⟨by simp only;omega,by obtain ⟨T2,hT2⟩:=h2.ext;exact ⟨T2,by simpa using hT2⟩,fun _=>h2,fun h=>by simp only at h;omega⟩,by simp only;omega,.inl ⟨by simp only[hc1,↓eA,eB,evU,seval];try rfl,rfl⟩⟩
  · obtain ⟨rfl,rfl⟩:=hfr (by omega)
    have hkl : k = t.fares.length:=by omega
    have hneg : ¬ (0 : Int) ≤ (t.fares.length : Int) - 1 - k:=by omega
    have hk3 : (t.fares.length : Int) - 1 - at_ = ((t.fares.length - 1 - at_.toNat : Nat) : Int):=by omega
    have hrl : (t.fares.reverse.map frR).length = t.fares.length:=by simp
    have wr : ∀ n : Int,-9223372036854775808 ≤ n → n ≤ 9223372036854775807 → IntKind.i64.wrap n = n:=fun n h1 h2=>wrap_i64 h1 h2
    have rw_:=rev_why (p:=p) (t:=t) (l:=l) (ty:=ty) (sale:=sale) (j:=(t.fares.length : Int) - 1 - at_) (i:=at_) (by omega) (by omega) rfl
    have ra_:=rev_am (p:=p) (t:=t) (l:=l) (ty:=ty) (j:=(t.fares.length : Int) - 1 - at_) (i:=at_) (by omega) (by omega) rfl
    have wy2:=fun S=>wy2 ((t.fares.length : Int) - 1 - at_) S
    have am2:=fun S=>am2 ((t.fares.length : Int) - 1 - at_) S
    rw[rw_] at wy2
    rw[ra_] at am2
    simp only[revT] at wy2 am2
    rw[hB,hc1]
    simp (disch:=first|omega|(simp only[lenT];omega)) only[dF hneg,wr,List.length_reverse,evSt,↓eA,eB,evU,seval]
    refine (am _).then ?_
    simp (disch:=first|omega|(simp only[lenT];omega)) only[evSt,↓eA,eB,evU,seval]
    refine (am2 _).then ?_
    simp (disch:=first|omega|(simp only[lenT];omega)) only[evSt,↓eA,eB,evU,seval]
    refine exD.intro (wy _) ?_
    simp (disch:=first|omega|(simp only[lenT];omega)) only[evSt,↓eA,eB,evU,seval]
    refine (wy2 _).then ?_
    simp (disch:=first|omega|(simp only[lenT];omega)) only[eq_self,evSt,↓eA,eB,evU,seval]
    refine (aw _).then ?_
    simp (disch:=first|omega|(simp only[lenT];omega)) only[evSt,↓eA,eB,evU,seval]
    exact ⟨_,S,hn.fgt _,.imm rfl,Nat.le_refl _,rfl,rfl⟩
end Go.Proofs.YtanmnoipikdplaaGreat
/- Component: how what the laws are given is read,and how long it can be. -/
namespace Go.Proofs.YtanmnoipikdplaaGreat
open Go Go.AL
set_option linter.unusedSectionVars false
variable [Go.AL.Mode]
set_option linter.unusedSimpArgs false
set_option linter.unusedVariables false
structure Tx where
  code : Txt
  kind : Int
  ctry : Txt
  am : Int
  scope : Int
  trans : Int
  free : List Txt
def taxR (x : Tx) : List V:=[.str x.code,.int .i64 x.kind,.str x.ctry,.int .i64 x.am,.int .i64 x.scope,.int .i64 x.trans,.sl 1 (x.free.map txR)]
theorem txO : Opens Tryz.prog 9 txR (fun _=>True):=Opens.as (Opens.str (by kernel_rfl)) txR (fun _=>True) (fun p : Txt=>p) (fun _=>rfl) (fun _ _=>trivial)
theorem inO : Opens Tryz.prog 3 inR (fun _=>True):=Opens.as (Opens.int (k:=.i64) (by kernel_rfl)) inR (fun _=>True) (fun p : Int=>p) (fun _=>rfl) (fun _ _=>trivial)
theorem txsO : Opens Tryz.prog 36 (fun l : List Txt=>[.sl 1 (l.map txR)]) (fun _=>True) :=
  Opens.as (Opens.slice (q:=9) (sz:=1) (by kernel_rfl) (by kernel_rfl) (by omega) (fun _=>rfl) txO) (fun l : List Txt=>[.sl 1 (l.map txR)]) (fun _=>True) (fun p=>p) (fun _=>rfl) (fun _ _=>trivial)
theorem insO : Opens Tryz.prog 39 (fun l : List Int=>[.sl 1 (l.map inR)]) (fun _=>True) :=
  Opens.as (Opens.slice (q:=3) (sz:=1) (by kernel_rfl) (by kernel_rfl) (by omega) (fun _=>rfl) inO) (fun l : List Int=>[.sl 1 (l.map inR)]) (fun _=>True) (fun p=>p) (fun _=>rfl) (fun _ _=>trivial)
theorem shO : Opens Tryz.prog 139 (shR) (fun _=>True) :=
  Opens.as (Opens.struct Tryz.underlying139 (by kernel_rfl) (OpensL.cons (Opens.int (k:=.i64) (by kernel_rfl)) (OpensL.one (Opens.int (k:=.i64) (by kernel_rfl))))) (shR) (fun _=>True) (fun p : Int × Int=>(p : Int × Int)) (fun _=>rfl) (fun _ _=>trivial)
theorem shsO : Opens Tryz.prog 61 (fun l : List ((Int × Int))=>[.sl 2 (l.map shR)]) (fun _=>True) :=
  Opens.as (Opens.slice (q:=139) (sz:=2) (by kernel_rfl) (by kernel_rfl) (by omega) (fun _=>rfl) shO) (fun l : List ((Int × Int))=>[.sl 2 (l.map shR)]) (fun _=>True) (fun p=>p) (fun _=>rfl) (fun _ _=>trivial)
theorem znO : Opens Tryz.prog 63 (fun z : Int × List (Int × Int)=>[.int .i64 z.1,.sl 2 (z.2.map shR)]) (fun _=>True) :=
  Opens.as (Opens.struct Tryz.underlying63 (by kernel_rfl) (OpensL.cons (Opens.int (k:=.i64) (by kernel_rfl)) (OpensL.one shsO))) (fun z : Int × List (Int × Int)=>[.int .i64 z.1,.sl 2 (z.2.map shR)]) (fun _=>True) (fun p : Int × List (Int × Int)=>(p : Int × List (Int × Int))) (fun _=>rfl) (fun _ _=>trivial)
theorem aptO : Opens Tryz.prog 65 (aptR) (fun _=>True) :=
  Opens.as (Opens.struct Tryz.underlying65 (by kernel_rfl) (OpensL.cons (Opens.str (by kernel_rfl)) (OpensL.cons (Opens.str (by kernel_rfl)) (OpensL.cons (Opens.str (by kernel_rfl)) (OpensL.one znO))))) (aptR) (fun _=>True) (fun p : Txt × Txt × Txt × Int × List (Int × Int)=>(Apt.mk p.1 p.2.1 p.2.2.1 p.2.2.2.1 p.2.2.2.2 : Apt)) (fun _=>rfl) (fun _ _=>trivial)
theorem aptsO : Opens Tryz.prog 22 (fun l : List Apt=>[.sl 5 (l.map aptR)]) (fun _=>True) :=
  Opens.as (Opens.slice (q:=65) (sz:=5) (by kernel_rfl) (by kernel_rfl) (by omega) (fun _=>rfl) aptO) (fun l : List Apt=>[.sl 5 (l.map aptR)]) (fun _=>True) (fun p=>p) (fun _=>rfl) (fun _ _=>trivial)
theorem dstO : Opens Tryz.prog 129 (dstR) (fun _=>True) :=
  Opens.as (Opens.struct Tryz.underlying129 (by kernel_rfl) (OpensL.cons (Opens.str (by kernel_rfl)) (OpensL.cons (Opens.str (by kernel_rfl)) (OpensL.one (Opens.int (k:=.i64) (by kernel_rfl)))))) (dstR) (fun _=>True) (fun p : Txt × Txt × Int=>(Dst.mk p.1 p.2.1 p.2.2 : Dst)) (fun _=>rfl) (fun _ _=>trivial)
theorem dstsO : Opens Tryz.prog 23 (fun l : List Dst=>[.sl 3 (l.map dstR)]) (fun _=>True) :=
  Opens.as (Opens.slice (q:=129) (sz:=3) (by kernel_rfl) (by kernel_rfl) (by omega) (fun _=>rfl) dstO) (fun l : List Dst=>[.sl 3 (l.map dstR)]) (fun _=>True) (fun p=>p) (fun _=>rfl) (fun _ _=>trivial)
theorem plO : Opens Tryz.prog 25 (fun p : Pls=>[.sl 5 (p.1.map aptR),.sl 3 (p.2.map dstR)]) (fun _=>True) :=
  Opens.as (Opens.struct Tryz.underlying25 (by kernel_rfl) (OpensL.cons aptsO (OpensL.one dstsO))) (fun p : Pls=>[.sl 5 (p.1.map aptR),.sl 3 (p.2.map dstR)]) (fun _=>True) (fun p : List Apt × List Dst=>(p : Pls)) (fun _=>rfl) (fun _ _=>trivial)
theorem pdO : Opens Tryz.prog 72 (pdR) (fun _=>True) :=
  Opens.as (Opens.struct Tryz.underlying72 (by kernel_rfl) (OpensL.cons (Opens.int (k:=.i64) (by kernel_rfl)) (OpensL.cons (Opens.int (k:=.i64) (by kernel_rfl)) (OpensL.one (Opens.int (k:=.i64) (by kernel_rfl)))))) (pdR) (fun _=>True) (fun p : Int × Int × Int=>(Pd.mk p.1 p.2.1 p.2.2 : Pd)) (fun _=>rfl) (fun _ _=>trivial)
theorem segO : Opens Tryz.prog 67 (sgR) (fun _=>True) :=
  Opens.as (Opens.struct Tryz.underlying67 (by kernel_rfl) (OpensL.cons (Opens.str (by kernel_rfl)) (OpensL.cons (Opens.int (k:=.i64) (by kernel_rfl)) (OpensL.cons (Opens.int (k:=.i64) (by kernel_rfl)) (OpensL.cons (Opens.str (by kernel_rfl)) (OpensL.cons (Opens.str (by kernel_rfl)) (OpensL.cons (Opens.int (k:=.i64) (by kernel_rfl)) (OpensL.one (Opens.int (k:=.i64) (by kernel_rfl)))))))))) (sgR) (fun _=>True) (fun p : Txt × Int × Int × Txt × Txt × Int × Int=>(Sg.mk p.1 p.2.1 p.2.2.1 p.2.2.2.1 p.2.2.2.2.1 p.2.2.2.2.2.1 p.2.2.2.2.2.2 : Sg)) (fun _=>rfl) (fun _ _=>trivial)
theorem wntO : Opens Tryz.prog 69 (wntR) (fun _=>True) :=
  Opens.as (Opens.struct Tryz.underlying69 (by kernel_rfl) (OpensL.cons segO (OpensL.one (Opens.str (by kernel_rfl))))) (wntR) (fun _=>True) (fun p : Sg × Txt=>(Wnt.mk p.1 p.2 : Wnt)) (fun _=>rfl) (fun _ _=>trivial)
theorem wntsO : Opens Tryz.prog 26 (fun l : List Wnt=>[.sl 8 (l.map wntR)]) (fun _=>True) :=
  Opens.as (Opens.slice (q:=69) (sz:=8) (by kernel_rfl) (by kernel_rfl) (by omega) (fun _=>rfl) wntO) (fun l : List Wnt=>[.sl 8 (l.map wntR)]) (fun _=>True) (fun p=>p) (fun _=>rfl) (fun _ _=>trivial)
theorem frO : Opens Tryz.prog 57 (frR) (fun _=>True) :=
  Opens.as (Opens.struct Tryz.underlying57 (by kernel_rfl) (OpensL.cons (Opens.str (by kernel_rfl)) (OpensL.cons (Opens.str (by kernel_rfl)) (OpensL.cons (Opens.str (by kernel_rfl)) (OpensL.cons (Opens.str (by kernel_rfl)) (OpensL.cons (Opens.str (by kernel_rfl)) (OpensL.cons (Opens.bool (by kernel_rfl)) (OpensL.cons (Opens.int (k:=.i64) (by kernel_rfl)) (OpensL.cons (Opens.int (k:=.i64) (by kernel_rfl)) (OpensL.one (Opens.int (k:=.i64) (by kernel_rfl)))))))))))) (frR) (fun _=>True) (fun p : Txt × Txt × Txt × Txt × Txt × Bool × Int × Int × Int=>(Fr.mk p.1 p.2.1 p.2.2.1 p.2.2.2.1 p.2.2.2.2.1 p.2.2.2.2.2.1 p.2.2.2.2.2.2.1 p.2.2.2.2.2.2.2.1 p.2.2.2.2.2.2.2.2 : Fr)) (fun _=>rfl) (fun _ _=>trivial)
theorem frsO : Opens Tryz.prog 28 (fun l : List Fr=>[.sl 9 (l.map frR)]) (fun _=>True) :=
  Opens.as (Opens.slice (q:=57) (sz:=9) (by kernel_rfl) (by kernel_rfl) (by omega) (fun _=>rfl) frO) (fun l : List Fr=>[.sl 9 (l.map frR)]) (fun _=>True) (fun p=>p) (fun _=>rfl) (fun _ _=>trivial)
theorem cndO : Opens Tryz.prog 74 Cnd.row (fun _=>True):=Opens.rec_ fun B ih=>by
  have ihB : OpensB B Tryz.prog 70 (fun l : List Cnd=>[.sl 8 (l.map Cnd.row)]) (fun l=>∀ a ∈ l,True):=(OpensB.slice (q:=74) (sz:=8) (by kernel_rfl) (by kernel_rfl) (by omega) (fun c=>by cases c;rfl) ih).mono (Nat.le_succ _)
  exact OpensB.as (OpensB.struct Tryz.underlying74 (by kernel_rfl) (OpensLB.cons (Opens.toB (Opens.int (k:=.i64) (by kernel_rfl)) B) (OpensLB.cons ihB (OpensLB.cons (Opens.toB (Opens.int (k:=.i64) (by kernel_rfl)) B) (OpensLB.cons (Opens.toB (Opens.int (k:=.i64) (by kernel_rfl)) B) (OpensLB.cons (Opens.toB pdO B) (OpensLB.one (Opens.toB txsO B)))))))) Cnd.row (fun _=>True) (fun p : Int × List Cnd × Int × Int × Pd × List Txt=>Cnd.mk p.1 p.2.1 p.2.2.1 p.2.2.2.1 p.2.2.2.2.1 p.2.2.2.2.2) (fun p=>by simp only[Cnd.row,Cnd.rows_eq,pdR,List.cons_append,List.nil_append]) (fun _ _=>trivial)
theorem perO : Opens Tryz.prog 119 (perR) (fun _=>True) :=
  Opens.as (Opens.struct Tryz.underlying119 (by kernel_rfl) (OpensL.cons (Opens.str (by kernel_rfl)) (OpensL.one (Opens.int (k:=.i64) (by kernel_rfl))))) (perR) (fun _=>True) (fun p : Txt × Int=>(p : Txt × Int)) (fun _=>rfl) (fun _ _=>trivial)
theorem persO : Opens Tryz.prog 75 (fun l : List ((Txt × Int))=>[.sl 2 (l.map perR)]) (fun _=>True) :=
  Opens.as (Opens.slice (q:=119) (sz:=2) (by kernel_rfl) (by kernel_rfl) (by omega) (fun _=>rfl) perO) (fun l : List ((Txt × Int))=>[.sl 2 (l.map perR)]) (fun _=>True) (fun p=>p) (fun _=>rfl) (fun _ _=>trivial)
theorem rulO : Opens Tryz.prog 77 (rulR) (fun _=>True) :=
  Opens.as (Opens.struct Tryz.underlying77 (by kernel_rfl) (OpensL.cons (Opens.int (k:=.i64) (by kernel_rfl)) (OpensL.cons cndO (OpensL.cons insO (OpensL.cons (Opens.int (k:=.i64) (by kernel_rfl)) (OpensL.cons (Opens.int (k:=.i64) (by kernel_rfl)) (OpensL.cons (Opens.int (k:=.i64) (by kernel_rfl)) (OpensL.cons (Opens.int (k:=.i64) (by kernel_rfl)) (OpensL.one persO))))))))) (rulR) (fun _=>True) (fun p : Int × Cnd × List Int × Int × Int × Int × Int × List (Txt × Int)=>(Rul.mk p.1 p.2.1 p.2.2.1 p.2.2.2.1 p.2.2.2.2.1 p.2.2.2.2.2.1 p.2.2.2.2.2.2.1 p.2.2.2.2.2.2.2 : Rul)) (fun _=>rfl) (fun _ _=>trivial)
theorem rulR_len (r : Rul) : (rulR r).length = 15:=by
  obtain ⟨n,⟨k,l,a,b,p,tx⟩,comb,mn,mx,ch,rf,per⟩:=r
  rfl
theorem rulsO : Opens Tryz.prog 29 (fun l : List Rul=>[.sl 15 (l.map rulR)]) (fun _=>True) :=
  Opens.as (Opens.slice (q:=77) (sz:=15) (by kernel_rfl) (by kernel_rfl) (by omega) (rulR_len) rulO) (fun l : List Rul=>[.sl 15 (l.map rulR)]) (fun _=>True) (fun p=>p) (fun _=>rfl) (fun _ _=>trivial)
theorem lnkO : Opens Tryz.prog 137 (lnkR) (fun _=>True) :=
  Opens.as (Opens.struct Tryz.underlying137 (by kernel_rfl) (OpensL.cons (Opens.str (by kernel_rfl)) (OpensL.one (Opens.str (by kernel_rfl))))) (lnkR) (fun _=>True) (fun p : Txt × Txt=>(p : Txt × Txt)) (fun _=>rfl) (fun _ _=>trivial)
theorem lnksO : Opens Tryz.prog 87 (fun l : List ((Txt × Txt))=>[.sl 2 (l.map lnkR)]) (fun _=>True) :=
  Opens.as (Opens.slice (q:=137) (sz:=2) (by kernel_rfl) (by kernel_rfl) (by omega) (fun _=>rfl) lnkO) (fun l : List ((Txt × Txt))=>[.sl 2 (l.map lnkR)]) (fun _=>True) (fun p=>p) (fun _=>rfl) (fun _ _=>trivial)
theorem rouO : Opens Tryz.prog 89 (rouR) (fun _=>True) :=
  Opens.as (Opens.struct Tryz.underlying89 (by kernel_rfl) (OpensL.cons (Opens.int (k:=.i64) (by kernel_rfl)) (OpensL.cons lnksO (OpensL.one (Opens.int (k:=.i64) (by kernel_rfl)))))) (rouR) (fun _=>True) (fun p : Int × List (Txt × Txt) × Int=>(Rou.mk p.1 p.2.1 p.2.2 : Rou)) (fun _=>rfl) (fun _ _=>trivial)
theorem rousO : Opens Tryz.prog 30 (fun l : List Rou=>[.sl 3 (l.map rouR)]) (fun _=>True) :=
  Opens.as (Opens.slice (q:=89) (sz:=3) (by kernel_rfl) (by kernel_rfl) (by omega) (fun _=>rfl) rouO) (fun l : List Rou=>[.sl 3 (l.map rouR)]) (fun _=>True) (fun p=>p) (fun _=>rfl) (fun _ _=>trivial)
theorem taxO : Opens Tryz.prog 200 (taxR) (fun _=>True) :=
  Opens.as (Opens.struct Tryz.underlying200 (by kernel_rfl) (OpensL.cons (Opens.str (by kernel_rfl)) (OpensL.cons (Opens.int (k:=.i64) (by kernel_rfl)) (OpensL.cons (Opens.str (by kernel_rfl)) (OpensL.cons (Opens.int (k:=.i64) (by kernel_rfl)) (OpensL.cons (Opens.int (k:=.i64) (by kernel_rfl)) (OpensL.cons (Opens.int (k:=.i64) (by kernel_rfl)) (OpensL.one txsO)))))))) (taxR) (fun _=>True) (fun p : Txt × Int × Txt × Int × Int × Int × List Txt=>(Tx.mk p.1 p.2.1 p.2.2.1 p.2.2.2.1 p.2.2.2.2.1 p.2.2.2.2.2.1 p.2.2.2.2.2.2 : Tx)) (fun _=>rfl) (fun _ _=>trivial)
theorem taxsO : Opens Tryz.prog 31 (fun l : List Tx=>[.sl 7 (l.map taxR)]) (fun _=>True) :=
  Opens.as (Opens.slice (q:=200) (sz:=7) (by kernel_rfl) (by kernel_rfl) (by omega) (fun _=>rfl) taxO) (fun l : List Tx=>[.sl 7 (l.map taxR)]) (fun _=>True) (fun p=>p) (fun _=>rfl) (fun _ _=>trivial)
theorem tarO : Opens Tryz.prog 33 (fun t : Tar × List Tx=>tarV t.1 (t.2.map taxR)) (fun _=>True) :=
  Opens.as (Opens.struct Tryz.underlying33 (by kernel_rfl) (OpensL.cons frsO (OpensL.cons rulsO (OpensL.cons rousO (OpensL.one taxsO))))) (fun t : Tar × List Tx=>tarV t.1 (t.2.map taxR)) (fun _=>True) (fun p : List Fr × List Rul × List Rou × List Tx=>((Tar.mk p.1 p.2.1 p.2.2.1,p.2.2.2) : Tar × List Tx)) (fun _=>rfl) (fun _ _=>trivial)
structure Cas where
  p : Pls
  t : Tar
  tx : List Tx
  at_ : Int
  l : List Wnt
  ty : Txt
  sale : Int
def casR (c : Cas) : List V:=caseV c.p c.t (c.tx.map taxR) c.at_ c.l c.ty c.sale
theorem casO : Opens Tryz.prog 45 (casR) (fun _=>True) :=
  Opens.as (Opens.struct Tryz.underlying45 (by kernel_rfl) (OpensL.cons plO (OpensL.cons tarO (OpensL.cons (Opens.int (k:=.i64) (by kernel_rfl)) (OpensL.cons wntsO (OpensL.cons (Opens.str (by kernel_rfl)) (OpensL.one (Opens.int (k:=.i64) (by kernel_rfl))))))))) (casR) (fun _=>True) (fun p : Pls × (Tar × List Tx) × Int × List Wnt × Txt × Int=>(Cas.mk p.1 p.2.1.1 p.2.1.2 p.2.2.1 p.2.2.2.1 p.2.2.2.2.1 p.2.2.2.2.2 : Cas)) (fun _=>rfl) (fun _ _=>trivial)
theorem sl_bulk (sz : Nat) (rows : List (List V)) (h : ∀ r ∈ rows,1 ≤ cellsBulk r) : rows.length ≤ (V.sl sz rows).bulk:=by
  have:=rowsBulk_len rows h
  simp only[V.bulk]
  omega
theorem one_bulk {v : V} (vs : List V) (h : 1 ≤ v.bulk) : 1 ≤ cellsBulk (v :: vs):=by
  simp only[cellsBulk]
  omega
theorem rul_bulk (r : Rul) : r.comb.length ≤ cellsBulk (rulR r) ∧ r.per.length ≤ cellsBulk (rulR r) ∧ 1 ≤ cellsBulk (rulR r):=by
  have h1 : (V.sl 1 (r.comb.map inR)).bulk ≤ cellsBulk (rulR r):=cellsBulk_mem (by simp [rulR])
  have h2 : (V.sl 2 (r.per.map perR)).bulk ≤ cellsBulk (rulR r):=cellsBulk_mem (by simp [rulR])
  have h3:=sl_bulk 1 (r.comb.map inR) (fun x hx=>by obtain ⟨n,_,rfl⟩:=List.mem_map.1 hx;exact one_bulk _ (by simp [V.bulk]))
  have h4:=sl_bulk 2 (r.per.map perR) (fun x hx=>by obtain ⟨n,_,rfl⟩:=List.mem_map.1 hx;exact one_bulk _ (by simp [V.bulk]))
  have h5 : (V.int .i64 r.n).bulk ≤ cellsBulk (rulR r):=cellsBulk_mem (by simp [rulR])
  rw[List.length_map] at h3 h4
  simp only[V.bulk] at h5
  exact ⟨by omega,by omega,by omega⟩
theorem rou_bulk (r : Rou) : r.links.length ≤ cellsBulk (rouR r) ∧ 1 ≤ cellsBulk (rouR r):=by
  have h1 : (V.sl 2 (r.links.map lnkR)).bulk ≤ cellsBulk (rouR r):=cellsBulk_mem (by simp [rouR])
  have h3:=sl_bulk 2 (r.links.map lnkR) (fun x hx=>by obtain ⟨n,_,rfl⟩:=List.mem_map.1 hx;exact one_bulk _ (by simp [V.bulk]))
  have h5 : (V.int .i64 r.n).bulk ≤ cellsBulk (rouR r):=cellsBulk_mem (by simp [rouR])
  rw[List.length_map] at h3
  simp only[V.bulk] at h5
  exact ⟨by omega,by omega⟩
theorem tsm_bulk {c : Cas} (h : cellsBulk (casR c) ≤ 1048576) : TSm c.t:=by
  have h1 : (V.sl 9 (c.t.fares.map frR)).bulk ≤ cellsBulk (casR c):=cellsBulk_mem (by simp [casR,caseV])
  have h2 : (V.sl 15 (c.t.rules.map rulR)).bulk ≤ cellsBulk (casR c):=cellsBulk_mem (by simp [casR,caseV])
  have h3 : (V.sl 3 (c.t.routs.map rouR)).bulk ≤ cellsBulk (casR c):=cellsBulk_mem (by simp [casR,caseV])
  have g1:=sl_bulk 9 (c.t.fares.map frR) (fun x hx=>by obtain ⟨n,_,rfl⟩:=List.mem_map.1 hx;exact one_bulk _ (by simp [V.bulk]))
  have g2:=sl_bulk 15 (c.t.rules.map rulR) (fun x hx=>by obtain ⟨n,_,rfl⟩:=List.mem_map.1 hx;exact (rul_bulk n).2.2)
  have g3:=sl_bulk 3 (c.t.routs.map rouR) (fun x hx=>by obtain ⟨n,_,rfl⟩:=List.mem_map.1 hx;exact (rou_bulk n).2)
  rw[List.length_map] at g1 g2 g3
  refine ⟨by omega,by omega,by omega,fun r hr=>?_,fun r hr=>?_⟩
  · have:=rowsBulk_mem (rows:=c.t.rules.map rulR) (r:=rulR r) (List.mem_map_of_mem hr)
    have:=rul_bulk r
    simp only[V.bulk] at h2
    omega
  · have:=rowsBulk_mem (rows:=c.t.routs.map rouR) (r:=rouR r) (List.mem_map_of_mem hr)
    have:=rou_bulk r
    simp only[V.bulk] at h3
    omega
end Go.Proofs.YtanmnoipikdplaaGreat
