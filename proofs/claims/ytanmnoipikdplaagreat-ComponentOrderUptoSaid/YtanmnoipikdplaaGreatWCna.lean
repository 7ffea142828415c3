/- Component: all fares, both sides. -/
import Derived.Test.YtanmnoipikdplaaGreatWCn9
import Derived.Test.YtanmnoipikdplaaGreatWCSt5
namespace Go.Proofs.YtanmnoipikdplaaGreat
open Go Go.AL
set_option linter.unusedSectionVars false
variable [Go.AL.Mode]
set_option linter.unusedSimpArgs false
set_option linter.unusedVariables false
def goodF (p : Pls) (t : Tar) (l : List Wnt) (ty : Txt) (sale : Int) (i : Nat) : Bool:=decide (whyF p t i l ty sale = 0) && decide ((amountF p t i l ty).2 = 0)
def partF (p : Pls) (t : Tar) (l : List Wnt) (ty : Txt) (i : Nat) : Prt:=⟨(l.length : Nat),(i : Nat),(amountF p t i l ty).1⟩
def partsF (p : Pls) (t : Tar) (l : List Wnt) (ty : Txt) (sale : Int) (n : Nat) : List Prt:=((List.range n).filter (goodF p t l ty sale)).map (partF p t l ty)
theorem parts_step {p : Pls} {t : Tar} {l : List Wnt} {ty : Txt} {sale : Int} (n : Nat) : partsF p t l ty sale (n + 1) = partsF p t l ty sale n ++ if goodF p t l ty sale n then [partF p t l ty n] else []:=by
  unfold partsF
  rw[List.range_succ,List.filter_append,List.map_append]
  cases h : goodF p t l ty sale n<;>simp [h]
theorem parts_fare {p : Pls} {t : Tar} {l : List Wnt} {ty : Txt} {sale : Int} {n : Nat} {x : Prt} (h : x ∈ partsF p t l ty sale n) : ∃ i : Nat,i < n ∧ goodF p t l ty sale i = true ∧ x = partF p t l ty i:=by
  obtain ⟨i,hi,rfl⟩:=List.mem_map.1 h
  obtain ⟨h1,h2⟩:=List.mem_filter.1 hi
  exact ⟨i,List.mem_range.1 h1,h2,rfl⟩
theorem parts_len {p : Pls} {t : Tar} {l : List Wnt} {ty : Txt} {sale : Int} (n : Nat) : (partsF p t l ty sale n).length ≤ n:=by
  unfold partsF
  rw[List.length_map]
  exact Nat.le_trans (List.length_filter_le _ _) (by rw[List.length_range];exact Nat.le_refl _)
theorem parts_inj {p : Pls} {t : Tar} {l : List Wnt} {ty : Txt} {sale : Int} {n : Nat} : ∀ x ∈ partsF p t l ty sale n,∀ y ∈ partsF p t l ty sale n,x.fare = y.fare → x = y:=by
  intro x hx y hy h
  obtain ⟨i,_,_,rfl⟩:=parts_fare hx
  obtain ⟨j,_,_,rfl⟩:=parts_fare hy
  have : i = j:=by simp only[partF] at h;omega
  rw[this]
theorem parts_ord {p : Pls} {t : Tar} {l : List Wnt} {ty : Txt} {sale : Int} {n : Nat} : (partsF p t l ty sale n).Pairwise fun x y=>x.fare < y.fare:=by
  unfold partsF
  rw[List.pairwise_map]
  refine List.Pairwise.imp ?_ (List.Pairwise.filter _ List.pairwise_lt_range)
  intro a b h
  simp only[partF]
  omega
theorem prtR_imm (l : List Prt) : ∀ r ∈ l.map prtR,r.length = 4 ∧ V.allImm r = true:=fun r hr=>by
  obtain ⟨x,_,rfl⟩:=List.mem_map.1 hr
  exact ⟨rfl,rfl⟩
def prtO (r : List V) : Prt:=match r with
  | [_,.int _ a,.int _ b,.int _ c]=>⟨a,b,c⟩
  | _=>⟨0,0,0⟩
theorem prtO_R (x : Prt) : prtO (prtR x) = x:=rfl
def okP (r : List V) : Prop:=∃ x,r = prtR x
def ltRowP (x y : List V) : Bool:=ltP (prtO x) (prtO y)
def ordP (x y : List V) : Prop:=(prtO x).fare < (prtO y).fare
theorem isNaN_A (n : Int) (S : Store) : CallA Tryz.prog 79 [.int .i64 n] S fun r S'=>r = .bool false ∧ S' = S:=by
  refine CallA.keep Tryz.func79 c609 (Nat.le_of_ble_eq_true rfl) fun σ hσ=>?_
  simp only[a609,↓eA,eB,evU,seval]
def cmpF (a b : Int) : Int:=if a < b then -1 else if b < a then 1 else 0
theorem compare_A (a b : Int) (S : Store) : CallA Tryz.prog 55 [.int .i64 a,.int .i64 b] S fun r S'=>r = .int .i64 (cmpF a b) ∧ S' = S:=by
  refine CallA.keep Tryz.func55 c560 (Nat.le_of_ble_eq_true rfl) fun σ hσ=>?_
  simp only[a560,↓eA,eB,evU,seval]
  refine (isNaN_A a S).then ?_
  simp only[↓eA,eB,evU,seval]
  refine (isNaN_A b S).then ?_
  by_cases h1 : a < b
  · simp only[cmpF,h1,if_true,↓eA,eB,evU,seval]
  by_cases h2 : b < a
  · simp only[cmpF,h1,h2,if_true,if_false,↓eA,eB,evU,seval]
  simp only[cmpF,h1,h2,if_false,↓eA,eB,evU,seval]
theorem fares1_A (x y : Prt) (S : Store) : CallA Tryz.prog 54 [.agg (prtR x),.agg (prtR y)] S fun r S'=>r = .int .i64 (cmpF x.am y.am) ∧ S' = S:=by
  refine CallA.keep Tryz.func54 c5018 (Nat.le_of_ble_eq_true rfl) fun σ hσ=>?_
  simp (disch:=first|omega|(simp only[lenT];omega)) only[a5018,prtR,evSt,↓eA,eB,evU,seval]
  refine (compare_A _ _ S).then ?_
  simp (disch:=first|omega|(simp only[lenT];omega)) only[evSt,↓eA,eB,evU,seval]
theorem prtCmps : Cmps 54 [] [] okP ltRowP ordP:=by
  rintro _ _ S ⟨x,rfl⟩ ⟨y,rfl⟩ ho
  refine (fares1_A x y S).mono ?_
  rintro _ _ ⟨rfl,rfl⟩
  refine ⟨⟨_,rfl,?_⟩,rfl⟩
  unfold ordP at ho
  rw[prtO_R,prtO_R] at ho
  unfold ltRowP ltP cmpF
  rw[prtO_R,prtO_R,decide_eq_true_eq]
  split
  · constructor<;>intro _<;>omega
  · split
    · constructor<;>intro _<;>omega
    · constructor<;>intro _<;>omega
theorem prtOrds : Ords okP ltRowP where
  asymm:=by
    rintro _ _ ⟨x,rfl⟩ ⟨y,rfl⟩ h
    exact ltP_asymm h
  trans:=by
    rintro _ _ _ ⟨x,rfl⟩ ⟨y,rfl⟩ ⟨z,rfl⟩ h1 h2
    exact ltP_trans h1 h2
theorem okP_all {M : List (List V)} (h : ∀ r ∈ M,okP r) : M = (M.map prtO).map prtR:=by
  induction M with
  | nil=>rfl
  | cons r M ih =>
    obtain ⟨x,rfl⟩:=h r (.head _)
    rw[List.map_cons,List.map_cons,prtO_R,← ih fun r hr=>h r (.tail _ hr)]
theorem sortP_A (L : List Prt) (hL : L.Pairwise fun x y=>x.fare < y.fare) (S : Store) (v : Nat) (hl : L.length ≤ 1000000) : CallA Tryz.prog 53 [.msl S.length v 0 L.length,.func 54 [] []] (S ++ [⟨v,some (.arr 55 4 (L.map prtR))⟩]) fun r S'=>r = .tup [] ∧ ∃ M : List Prt,M.Perm L ∧ SrtP M ∧ S' = S ++ [⟨v,some (.arr 55 4 (M.map prtR))⟩]:=by
  refine CallA.keep Tryz.func53 c5202 (Nat.le_of_ble_eq_true rfl) fun σ hσ=>?_
  simp (disch:=first|omega|(simp only[lenT];omega)) only[a5202,evSt,↓eA,eB,evU,seval]
  have h1 : ∀ rows' : List (List V),rset (S ++ [⟨v,some (.arr 55 4 (L.map prtR))⟩]) S.length v rows' = S ++ [⟨v,some (.arr 55 4 rows')⟩]:=fun rows'=>by simp [rset]
  have hokL : ∀ r ∈ L.map prtR,okP r:=fun r hr=>by obtain ⟨x,_,rfl⟩:=List.mem_map.1 hr;exact ⟨x,rfl⟩
  have:=stable_A prtCmps prtOrds (L.map prtR) (S ++ [⟨v,some (.arr 55 4 (L.map prtR))⟩]) S.length v L.length (by simp) (fun r hr=>by obtain ⟨x,rfl⟩:=hr;exact ⟨rfl,rfl⟩) hokL (by simp) (by omega) (List.pairwise_map.2 (hL.imp fun h=>h))
  rw[h1] at this
  refine this.mono ?_
  rintro r S' ⟨rfl,M',h2,h3,rfl⟩
  have hM:=okP_all (M:=M') fun r hr=>hokL r (h2.mem_iff.1 hr)
  have hp : (M'.map prtO).Perm L:=by
    have:=h2.map prtO
    rwa [List.map_map,show (prtO ∘ prtR) = id from funext prtO_R,List.map_id] at this
  simp only[h1,↓eA,eB,evU,seval]
  refine ⟨M'.map prtO,hp,List.pairwise_map.2 (h3.imp fun h=>h),?_⟩
  rw[← hM]
set_option maxHeartbeats 4000000 in
theorem fares_A (p : Pls) (hp : POk2 p) (t : Tar) (tx : List (List V)) (h : TOk t) (l : List Wnt) (hl : l.length ≤ 8) (hw : WOk l) (ty : Txt) (sale : Int) (S : Store) :
    CallA Tryz.prog 20 [plV p,.agg (tarV t tx),.sl 8 (l.map wntR),.str ty,.int .i64 sale] S fun r S'=>∃ L : List Prt,r = .sl 4 (L.map prtR) ∧ (SrtP L ∧ L.Perm (partsF p t l ty sale t.fares.length)) ∧ S' = S:=by
  refine CallA.withNeat Tryz.func20 c5017 fun hn=>?_
  refine (CallA.fin Tryz.func20 c5017 (R:=fun r S'=>(∃ L : List Prt,r = .sl 4 (L.map prtR) ∧ (SrtP L ∧ L.Perm (partsF p t l ty sale t.fares.length))) ∧ S' = S) (Nat.le_of_ble_eq_true rfl) fun σ hσ=>?_).mono fun r S' ⟨⟨L,h1,h2⟩,h3⟩=>⟨L,h1,h2,h3⟩
  have wy:=fun i S=>why_A p hp t tx h i l hl hw ty sale S
  have am:=fun i S=>amount_A p hp t tx h i l hl ty S
  have hfl:=h.fares
  simp only[plV,tarV] at wy am
  simp (disch:=first|omega|(simp only[lenT];omega)) only[a5017,plV,tarV,evSt,↓eA,eB,evU,seval]
  refine LoopA.ghost 11 0 55 4 rfl ?_
  refine loopF (ι:=Nat × Nat) (fun i=>[(2,.sl 8 (l.map wntR)),(3,.str ty),(4,.int .i64 sale),(5,.cptr [.sl 5 (p.1.map aptR),.sl 3 (p.2.map dstR)]),(6,.cptr [.sl 9 (t.fares.map frR),.sl 15 (t.rules.map rulR),.sl 3 (t.routs.map rouR),.sl 7 tx]),(11,.msl S.length i.2 0 (partsF p t l ty sale i.1).length),(16,.sl 9 (t.fares.map frR)),(17,.int .i64 t.fares.length),(18,.int .i64 (i.1 : Nat))])
    (fun i=>S ++ [⟨i.2,some (.arr 55 4 ((partsF p t l ty sale i.1).map prtR))⟩]) (fun i=>i.1 ≤ t.fares.length) (fun i=>t.fares.length - i.1) (fun i hi=>by rw[hσ];simp) (0,0) (Nat.zero_le _) (.inl ⟨?_,?_⟩) ?_
  · simp [partsF,sub,Env.get]
  · simp [partsF]
  rintro ⟨k,v⟩ hk
  simp only at hk ⊢
  have hpl:=parts_len (p:=p) (t:=t) (l:=l) (ty:=ty) (sale:=sale) k
  by_cases hlt' : k < t.fares.length
  · have hlt : ((k : Int) < t.fares.length):=by omega
    have hk1 : (k : Int) + 1 = ((k + 1 : Nat) : Int):=by omega
    have hst:=parts_step (p:=p) (t:=t) (l:=l) (ty:=ty) (sale:=sale) k
    simp (disch:=first|omega|(simp only[lenT];omega)) only[dT hlt,evSt,↓eA,eB,evU,seval]
    refine (wy _ _).then ?_
    by_cases h1 : whyF p t (k : Nat) l ty sale = 0
    · simp (disch:=first|omega|(simp only[lenT];omega)) only[dT h1,evSt,↓eA,eB,evU,seval]
      refine (am _ _).then ?_
      by_cases h2 : (amountF p t (k : Nat) l ty).2 = 0
      · have hg : goodF p t l ty sale k = true:=by unfold goodF;rw[dT h1,dT h2];rfl
        rw[hg,if_pos rfl] at hst
        have hst2 : (partsF p t l ty sale (k + 1)).map prtR = (partsF p t l ty sale k).map prtR ++ [[.int .i64 0,.int .i64 (l.length : Nat),.int .i64 (k : Nat),.int .i64 (amountF p t (k : Nat) l ty).1]]:=by rw[hst,List.map_append];rfl
        have hst3 : (partsF p t l ty sale (k + 1)).length = (partsF p t l ty sale k).length + 1:=by rw[hst,List.length_append];rfl
        simp (disch:=first|omega|(simp only[lenT];omega)) only[dT h2,wrap_i64,hk1,evSt,↓eA,eB,evU,seval]
        refine ⟨by unfold roomA;omega,(k + 1,v + 1),by simp only;omega,by simp only;omega,.inl ⟨?_,?_⟩⟩
        · simp only[hst3,↓eA,eB,evU,seval]
          try rfl
        · simp only[hst2]
      · have hg : goodF p t l ty sale k = false:=by unfold goodF;rw[dF h2,Bool.and_false]
        rw[hg,if_neg (by simp),List.append_nil] at hst
        simp (disch:=first|omega|(simp only[lenT];omega)) only[dF h2,wrap_i64,hk1,evSt,↓eA,eB,evU,seval]
        refine ⟨(k + 1,v),by simp only;omega,by simp only;omega,.inl ⟨?_,by simp only[hst]⟩⟩
        simp only[hst,↓eA,eB,evU,seval]
        try rfl
    · have hg : goodF p t l ty sale k = false:=by unfold goodF;rw[dF h1,Bool.false_and]
      rw[hg,if_neg (by simp),List.append_nil] at hst
      simp (disch:=first|omega|(simp only[lenT];omega)) only[dF h1,wrap_i64,hk1,evSt,↓eA,eB,evU,seval]
      refine ⟨(k + 1,v),by simp only;omega,by simp only;omega,.inl ⟨?_,by simp only[hst]⟩⟩
      simp only[hst,↓eA,eB,evU,seval]
      try rfl
  · have hlt : ¬ ((k : Int) < t.fares.length):=by omega
    have hkk : k = t.fares.length:=by omega
    subst hkk
    simp (disch:=first|omega|(simp only[lenT];omega)) only[dF hlt,evSt,↓eA,eB,evU,seval]
    refine (sortP_A (partsF p t l ty sale t.fares.length) parts_ord S v (by omega)).mono ?_
    rintro _ S2 ⟨rfl,M,hp1,hs1,hS2⟩
    rw[hS2]
    simp (disch:=first|omega|(simp only[lenT];omega)) only[evSt,↓eA,eB,evU,seval]
    exact ⟨_,S,hn.fgt _,.sl (t:=55) (Nat.le_refl _) (by rw[ob_app0,ob_head]) (by simp [hp1.length_eq]) (prtR_imm M),Nat.le_refl _,⟨M,rfl,hs1,hp1⟩,rfl⟩
set_option maxHeartbeats 4000000 in
theorem rfares_A (p : Pls) (hp : POk2 p) (t : Tar) (tx : List (List V)) (h : TOk t) (l : List Wnt) (hl : l.length ≤ 8) (hw : WOk l) (ty : Txt) (sale : Int) (S : Store) :
    CallA Tryz.prog 21 [plV p,.agg (tarV t tx),.sl 8 (l.map wntR),.str ty,.int .i64 sale] S fun r S'=>∃ L : List Prt,r = .sl 4 (L.map prtR) ∧ (SrtP L ∧ L.Perm (partsF p t l ty sale t.fares.length)) ∧ S' = S:=by
  refine CallA.withNeat Tryz.func21 c5024 fun hn=>?_
  refine (CallA.fin Tryz.func21 c5024 (R:=fun r S'=>(∃ L : List Prt,r = .sl 4 (L.map prtR) ∧ (SrtP L ∧ L.Perm (partsF p t l ty sale t.fares.length))) ∧ S' = S) (Nat.le_of_ble_eq_true rfl) fun σ hσ=>?_).mono fun r S' ⟨⟨L,h1,h2⟩,h3⟩=>⟨L,h1,h2,h3⟩
  have wy:=fun i S=>rwhy_A p hp t tx h i l hl hw ty sale S
  have am:=fun i S=>ramount_A p hp t tx h i l hl ty S
  have hfl:=h.fares
  simp only[plV,tarV] at wy am
  simp (disch:=first|omega|(simp only[lenT];omega)) only[a5024,plV,tarV,evSt,↓eA,eB,evU,seval]
  refine loopF (ι:=Nat × List Prt) (fun i=>[(2,.sl 8 (l.map wntR)),(3,.str ty),(4,.int .i64 sale),(5,.cptr [.sl 5 (p.1.map aptR),.sl 3 (p.2.map dstR)]),(6,.cptr [.sl 9 (t.fares.map frR),.sl 15 (t.rules.map rulR),.sl 3 (t.routs.map rouR),.sl 7 tx]),(11,.sl 4 (i.2.map prtR)),(12,.int .i64 (i.1 : Nat))])
    (fun i=>S) (fun i=>i.1 ≤ t.fares.length ∧ SrtP i.2 ∧ i.2.Perm (partsF p t l ty sale i.1)) (fun i=>t.fares.length - i.1) (fun i hi=>by rw[hσ];exact Nat.le_refl _) (0,[]) ⟨Nat.zero_le _,List.Pairwise.nil,List.Perm.refl _⟩ (.inr ⟨hn.self,?_⟩) ?_
  · simp only[subF,↓eA,eB,evU,seval]
    exact ⟨.imm rfl,.imm rfl,.imm rfl,.imm rfl,.imm rfl,.nil,.imm rfl⟩
  rintro ⟨k,L⟩ ⟨hk,hsL,hpL⟩
  simp only at hk hsL hpL ⊢
  have hpl:=parts_len (p:=p) (t:=t) (l:=l) (ty:=ty) (sale:=sale) k
  have hLl:=hpL.length_eq
  by_cases hlt' : k < t.fares.length
  case' neg =>
    have hlt : ¬ ((k : Int) < t.fares.length):=by omega
    have hkk : k = t.fares.length:=by omega
    subst hkk
    simp (disch:=first|omega|(simp only[lenT];omega)) only[dF hlt,evSt,↓eA,eB,evU,seval]
    exact ⟨_,S,hn.self,.imm rfl,Nat.le_refl _,⟨L,rfl,hsL,hpL⟩,rfl⟩
  have hlt : ((k : Int) < t.fares.length):=by omega
  have hk1 : (k : Int) + 1 = ((k + 1 : Nat) : Int):=by omega
  have hst:=parts_step (p:=p) (t:=t) (l:=l) (ty:=ty) (sale:=sale) k
  simp (disch:=first|omega|(simp only[lenT];omega)) only[dT hlt,evSt,↓eA,eB,evU,seval]
  refine (am _ _).then ?_
  by_cases h2 : (amountF p t (k : Nat) l ty).2 = 0
  case' neg =>
    have hg : goodF p t l ty sale k = false:=by unfold goodF;rw[dF h2,Bool.and_false]
    rw[hg,if_neg (by simp),List.append_nil] at hst
    simp (disch:=first|omega|(simp only[lenT];omega)) only[dF h2,wrap_i64,hk1,evSt,↓eA,eB,evU,seval]
    exact ⟨(k + 1,L),⟨by simp only;omega,hsL,by simp only;rw[hst];exact hpL⟩,by simp only;omega,.inl ⟨by simp only[↓eA,eB,evU,seval];try rfl,rfl⟩⟩
  simp (disch:=first|omega|(simp only[lenT];omega)) only[dT h2,evSt,↓eA,eB,evU,seval]
  refine (wy _ _).then ?_
  by_cases h1 : whyF p t (k : Nat) l ty sale = 0
  case' neg =>
    have hg : goodF p t l ty sale k = false:=by unfold goodF;rw[dF h1,Bool.false_and]
    rw[hg,if_neg (by simp),List.append_nil] at hst
    simp (disch:=first|omega|(simp only[lenT];omega)) only[dF h1,wrap_i64,hk1,evSt,↓eA,eB,evU,seval]
    exact ⟨(k + 1,L),⟨by simp only;omega,hsL,by simp only;rw[hst];exact hpL⟩,by simp only;omega,.inl ⟨by simp only[↓eA,eB,evU,seval];try rfl,rfl⟩⟩
  have hg : goodF p t l ty sale k = true:=by unfold goodF;rw[dT h1,dT h2];rfl
  rw[hg,if_pos rfl] at hst
  simp (disch:=first|omega|(simp only[lenT];omega)) only[dT h1,evSt,↓eA,eB,evU,seval]
  generalize hA : (amountF p t (k : Nat) l ty).1 = A at *
  have hx : ∀ y ∈ L,y.fare < (partF p t l ty k).fare:=fun y hy=>by
    obtain ⟨i,hi,_,rfl⟩:=parts_fare (hpL.mem_iff.1 hy)
    simp only[partF]
    omega
  have hxa : (partF p t l ty k).am = A:=hA
  refine loopA (ι:=Nat) (fun j=>[(2,.sl 8 (l.map wntR)),(3,.str ty),(4,.int .i64 sale),(5,.cptr [.sl 5 (p.1.map aptR),.sl 3 (p.2.map dstR)]),(6,.cptr [.sl 9 (t.fares.map frR),.sl 15 (t.rules.map rulR),.sl 3 (t.routs.map rouR),.sl 7 tx]),(11,.sl 4 (L.map prtR)),(12,.int .i64 (k : Nat)),(13,.int .i64 A),(15,.int .i64 (j : Nat))])
    (fun j=>S) (fun j=>j ≤ L.length ∧ ∀ y ∈ L.take j,y.am ≤ A) (fun j=>L.length - j) 0 ⟨Nat.zero_le _,by simp⟩ ?_ rfl ?_
  · simp only[↓eA,eB,evU,seval]
    try rfl
  rintro j ⟨hj,hjm⟩
  have hjL : (j : Int) ≤ (L.length : Nat):=by omega
  have hjL2 : (j : Int) ≤ (L.length : Nat) ∧ ((L.length : Nat) : Int) ≤ (L.length : Nat):=by omega
  have htd : (L.drop j).take (L.length - j) = L.drop j:=List.take_of_length_le (by rw[List.length_drop];exact Nat.le_refl _)
  have htl : (L.take j).length = j:=by rw[List.length_take];omega
  have hdl : (L.drop j).length = L.length - j:=List.length_drop
  have fin : (∀ y,L[j]? = some y → A < y.am) → SrtP (L.take j ++ partF p t l ty k :: L.drop j) ∧ (L.take j ++ partF p t l ty k :: L.drop j).Perm (partsF p t l ty sale (k + 1)):=fun hn2=>by
    obtain ⟨g1,g2⟩:=insP_ok (L:=L) (x:=partF p t l ty k) (k:=j) hx (by rw[hxa];exact hjm) (by rw[hxa];exact hn2) hsL
    refine ⟨g1,g2.trans ?_⟩
    rw[hst]
    exact (List.Perm.cons _ hpL).trans (List.perm_append_singleton _ _).symm
  have hrow : (L.take j ++ partF p t l ty k :: L.drop j).map prtR = (L.map prtR).take j ++ [[.int .i64 0,.int .i64 (l.length : Nat),.int .i64 (k : Nat),.int .i64 A]] ++ (L.map prtR).drop j:=by
    rw[List.map_append,List.map_cons,List.map_take,List.map_drop,List.append_assoc,List.singleton_append,← hxa]
    rfl
  have him:=prtR_imm (L.take j ++ partF p t l ty k :: L.drop j)
  cases hc : L[j]? with
  | none =>
    have hge:=List.getElem?_eq_none_iff.1 hc
    have hltj : ¬ ((j : Int) < L.length):=by omega
    simp (disch:=first|omega|(simp only[lenT];omega)) only[dF hltj,if_pos hjL,wrap_i64,hk1,evSt,↓eA,eB,evU,seval]
    refine ⟨by rw[htl];unfold roomA;omega,by rw[htl];unfold roomA;omega,?_⟩
    obtain ⟨g1,g2⟩:=fin (fun y hy=>by rw[hc] at hy;cases hy)
    have hst2 : (L.take j ++ partF p t l ty k :: L.drop j).length = j + 1 + (L.length - j):=by rw[List.length_append,List.length_cons,htl,hdl];omega
    simp (disch:=first|omega|(simp only[lenT];omega)) only[if_pos hjL2,htd,htl,hdl,wrap_i64,hk1,evSt,↓eA,eB,evU,seval]
    refine ⟨by rw[List.length_append,List.length_map,htl];rfl,by unfold roomA;omega,(k + 1,L.take j ++ partF p t l ty k :: L.drop j),⟨by simp only;omega,g1,g2⟩,by simp only;omega,.inr ⟨hn.fgt _,?_⟩⟩
    simp only[subF,↓eA,eB,evU,seval]
    refine ⟨.imm rfl,.imm rfl,.imm rfl,.imm rfl,.imm rfl,?_,.imm rfl⟩
    refine .sl (t:=55) (Nat.le_refl _) (by rw[ob_app0,hrow,List.map_take,List.map_drop,ob_head]) (by rw[List.length_map,hst2]) him
  | some y =>
    have hltj':=(List.getElem?_eq_some_iff.1 hc).1
    have hltj : ((j : Int) < L.length):=by omega
    have hj1 : (j : Int) + 1 = ((j + 1 : Nat) : Int):=by omega
    by_cases hya : y.am ≤ A
    · simp (disch:=first|omega|(simp only[lenT];omega)) only[dT hltj,hc,dT hya,prtR,wrap_i64,hj1,evSt,↓eA,eB,evU,seval]
      refine ⟨j + 1,⟨by omega,fun z hz=>?_⟩,by omega,by first | rfl | exact ⟨rfl,rfl⟩⟩
      rw[take_at hc] at hz
      rcases List.mem_append.1 hz with hz | hz
      · exact hjm z hz
      · rw[List.mem_singleton] at hz
        subst hz
        exact hya
    · simp (disch:=first|omega|(simp only[lenT];omega)) only[dT hltj,hc,dF hya,prtR,if_pos hjL,wrap_i64,hk1,evSt,↓eA,eB,evU,seval]
      refine ⟨by rw[htl];unfold roomA;omega,by rw[htl];unfold roomA;omega,?_⟩
      obtain ⟨g1,g2⟩:=fin (fun z hz=>by rw[hc] at hz;cases hz;omega)
      have hst2 : (L.take j ++ partF p t l ty k :: L.drop j).length = j + 1 + (L.length - j):=by rw[List.length_append,List.length_cons,htl,hdl];omega
      simp (disch:=first|omega|(simp only[lenT];omega)) only[if_pos hjL2,htd,htl,hdl,wrap_i64,hk1,evSt,↓eA,eB,evU,seval]
      refine ⟨by rw[List.length_append,List.length_map,htl];rfl,by unfold roomA;omega,(k + 1,L.take j ++ partF p t l ty k :: L.drop j),⟨by simp only;omega,g1,g2⟩,by simp only;omega,.inr ⟨hn.fgt _,?_⟩⟩
      simp only[subF,↓eA,eB,evU,seval]
      refine ⟨.imm rfl,.imm rfl,.imm rfl,.imm rfl,.imm rfl,?_,.imm rfl⟩
      refine .sl (t:=55) (Nat.le_refl _) (by rw[ob_app0,hrow,List.map_take,List.map_drop,ob_head]) (by rw[List.length_map,hst2]) him
end Go.Proofs.YtanmnoipikdplaaGreat
