/- Component: trips, both sides. -/
import Derived.Test.YtanmnoipikdplaaGreatWCn6
import Derived.Test.YtanmnoipikdplaaGreatWCz
namespace Go.Proofs.YtanmnoipikdplaaGreat
open Go Go.AL
set_option linter.unusedSectionVars false
variable [Go.AL.Mode]
set_option linter.unusedSimpArgs false
set_option linter.unusedVariables false
def zApt : Apt:=⟨[],[],[],0,[]⟩
def fApt (p : Pls) (c : Txt) : Apt:=(p.1.find? fun a=>decide (a.code = c)).getD zApt
theorem zone_eq (p : Pls) (c : Txt) : zoneF p c = ((fApt p c).off,(fApt p c).sh):=by
  unfold zoneF fApt
  cases p.1.find? fun a=>decide (a.code = c)<;>rfl
theorem findR_frz {S : Store} (p : Pls) (c : Txt) (hn : Neat S) : Frz S S (Ml.findR p.1 fun a=>decide (a.code = c)) (.tup [.agg (aptR (fApt p c)),.bool (p.1.find? fun a=>decide (a.code = c)).isSome]):=by
  unfold Ml.findR fApt
  cases p.1.find? fun a=>decide (a.code = c) with
  | some a=>exact .imm rfl
  | none=>exact .tup2 (frz_agg (show FrzAll _ _ _ [.str [],.str [],.str [],.int .i64 0,.sl 2 []] from ⟨.imm rfl,.imm rfl,.imm rfl,.imm rfl,.nil,trivial⟩)) (.imm rfl)
theorem find2_A (p : Pls) (c : Txt) (S : Store) (hl : p.1.length ≤ 1000) : CallA Tryz.prog 27 [plV p,.str c] S fun r S'=>r = .tup [.agg (aptR (fApt p c)),.bool (p.1.find? fun a=>decide (a.code = c)).isSome] ∧ S' = S :=
  CallA.refrz (Ml.find_A p c S (by omega)) fun hn=>findR_frz p c hn
theorem rfind2_A (p : Pls) (c : Txt) (S : Store) (hl : p.1.length ≤ 1000) : CallA Tryz.prog 31 [plV p,.str c] S fun r S'=>r = .tup [.agg (aptR (fApt p c)),.bool (p.1.find? fun a=>decide (a.code = c)).isSome] ∧ S' = S :=
  CallA.refrz (Ml.rfind_A p c S (by omega)) fun hn=>findR_frz p c hn
def ZnsOk (p : Pls) : Prop:=∀ a ∈ p.1,ZnOk a.sh
theorem fApt_ok {p : Pls} (h : ZnsOk p) (c : Txt) : ZnOk (fApt p c).sh:=by
  unfold fApt
  cases hf : p.1.find? fun a=>decide (a.code = c) with
  | some a=>exact h a (List.mem_of_find?_eq_some hf)
  | none=>exact ⟨Nat.zero_le _,List.Pairwise.nil⟩
theorem stops_A2 (a d : Int) (ha : 0 ≤ a ∧ a < 52596000) (hd : 0 ≤ d ∧ d < 52596000) (S : Store) : CallA Tryz.prog 30 [.int .i64 a,.int .i64 d] S fun v S'=>v = .bool (decide (1440 ≤ d - a)) ∧ S' = S:=by
  refine CallA.keep Tryz.func30 c5010 (Nat.le_of_ble_eq_true rfl) fun σ hσ=>?_
  by_cases h : d ≤ a
  · have h2 : ¬ 1440 ≤ d - a:=by omega
    simp (disch:=first|omega|(simp only[lenT];omega)) only[a5010,dT h,dF h2,evSt,↓eA,eB,evU,seval]
  · have e1 : IntKind.u64.wrap d = d:=by exact wrap_u64 (by omega) (by omega)
    have e2 : IntKind.u64.wrap a = a:=by exact wrap_u64 (by omega) (by omega)
    have e3 : IntKind.u64.wrap (d - a) = d - a:=by exact wrap_u64 (by omega) (by omega)
    simp (disch:=first|omega|(simp only[lenT];omega)) only[a5010,dF h,e1,e2,e3,evSt,↓eA,eB,evU,seval]
theorem wrap_rng (x : Int) : -9223372036854775808 ≤ IntKind.i64.wrap x ∧ IntKind.i64.wrap x < 9223372036854775808:=by
  rw[IntKind.wrap_i64];omega
def keepL (n : Nat) : Store → Store → Prop
  | _,[]=>True
  | [],_ :: _=>False
  | o :: L,o1 :: L1=>o.ver = o1.ver ∧ (o1.st = none ∨ (o1 = o ∧ objN n o1)) ∧ keepL n L L1
theorem keepL_fgt {S S1 : Store} : ∀ {L L1 : Store},keepL S1.length L L1 → FgtL S S1 L L1
  | L,[],_=>fgtL_nil
  | [],_ :: _,h=>h.elim
  | o :: L, o1 :: L1, h => ⟨h.1, by
      rcases h.2.1 with e | ⟨rfl,hN⟩
      · rw[e];trivial
      · exact objN.self hN,keepL_fgt h.2.2⟩
theorem fgt_keep {S L L1 : Store} (hn : Neat S) (h : keepL (S.length + L1.length) L L1) : Fgt (S ++ L) (S ++ L1):=hn.fgtL (keepL_fgt (by rw[List.length_append];exact h))
theorem objN_imm {n v : Nat} {t : TypeId} {sz : Nat} {rows : List (List V)} (h : ∀ r ∈ rows,r.length = sz ∧ V.allImm r = true) : objN n ⟨v,some (.arr t sz rows)⟩:=fun r hr=>by
  obtain ⟨h1,h2⟩:=h r hr
  refine ⟨h1,?_⟩
  have:=isImm_under n (v:=.agg r) (by simp only[V.isImm];exact h2)
  simpa only[V.under] using this
theorem objN_one {n v : Nat} {t : TypeId} {sz : Nat} {r : List V} (h : r.length = sz) (h2 : V.allUnder n r = true) : objN n ⟨v,some (.arr t sz [r])⟩:=fun q hq=>by
  rw[List.mem_singleton] at hq
  subst hq
  exact ⟨h,h2⟩
theorem cnt_le (q : Wnt → Wnt → Bool) (l : List Wnt) : ∀ i,cntN q l i ≤ i
  | 0=>Nat.le_refl _
  | i + 1=>by
    rw[cntN]
    have:=cnt_le q l i
    split
    · omega
    · split
      · split<;>omega
      · omega
theorem cnt_next (q : Wnt → Wnt → Bool) (l : List Wnt) {j : Nat} {a b : Wnt} (ha : l[j]? = some a) (hb : l[j + 1]? = some b) : cntN q l (j + 1 + 1) = cntN q l (j + 1) + if q a b then 1 else 0:=by
  rw[cntN,if_neg (by omega),Nat.add_sub_cancel,ha,hb]
theorem cnt_one1 (q : Wnt → Wnt → Bool) (l : List Wnt) : cntN q l (0 + 1) = 0:=by
  rw[cntN,if_pos rfl,cntN]
def WOk (l : List Wnt) : Prop:=∀ w ∈ l,(0 ≤ w.s.dep ∧ w.s.dep < 52596000) ∧ 0 ≤ w.s.arr ∧ w.s.arr < 52596000
theorem fgtT1 {S T : Store} (hn : Neat S) {t9 t5 tc tn : TypeId} {r8 r9 r10 : List V} {x : Option Cont} {v n1 n2 : Nat} {rc rn : List (List V)} (h8 : r8.length = 9 ∧ V.allUnder (S.length + 6) r8 = true) (h9 : r9.length = 9 ∧ V.allUnder (S.length + 6) r9 = true) (h10 : r10.length = 5 ∧ V.allUnder (S.length + 6) r10 = true) (hc : ∀ r ∈ rc,r.length = 1 ∧ V.allImm r = true) (hm : ∀ r ∈ rn,r.length = 1 ∧ V.allImm r = true) :
    Fgt (S ++ ⟨0,some (.arr t9 9 [r8])⟩ :: ⟨0,some (.arr t9 9 [r9])⟩ :: ⟨0,some (.arr t5 5 [r10])⟩ :: ⟨v,x⟩ :: ⟨n1,some (.arr tc 1 rc)⟩ :: ⟨n2,some (.arr tn 1 rn)⟩ :: T) (S ++ ⟨0,some (.arr t9 9 [r8])⟩ :: ⟨0,some (.arr t9 9 [r9])⟩ :: ⟨0,some (.arr t5 5 [r10])⟩ :: ⟨v,none⟩ :: ⟨n1,some (.arr tc 1 rc)⟩ :: ⟨n2,some (.arr tn 1 rn)⟩ :: []) :=
  fgt_keep hn (L:=_ :: _ :: _ :: _ :: _ :: _ :: T) (L1:=[_,_,_,_,_,_]) ⟨rfl,.inr ⟨rfl,objN_one h8.1 h8.2⟩,rfl,.inr ⟨rfl,objN_one h9.1 h9.2⟩,rfl,.inr ⟨rfl,objN_one h10.1 h10.2⟩,rfl,.inl rfl,rfl,.inr ⟨rfl,objN_imm hc⟩,rfl,.inr ⟨rfl,objN_imm hm⟩,by unfold keepL;cases T<;>trivial⟩
theorem fgtT2 {S T : Store} (hn : Neat S) {t9 t5 tc tn : TypeId} {r8 r9 r10 : List V} {n1 n2 : Nat} {rc rn : List (List V)} (h8 : r8.length = 9 ∧ V.allUnder (S.length + 5) r8 = true) (h9 : r9.length = 9 ∧ V.allUnder (S.length + 5) r9 = true) (h10 : r10.length = 5 ∧ V.allUnder (S.length + 5) r10 = true) (hc : ∀ r ∈ rc,r.length = 1 ∧ V.allImm r = true) (hm : ∀ r ∈ rn,r.length = 1 ∧ V.allImm r = true) :
    Fgt (S ++ ⟨0,some (.arr t9 9 [r8])⟩ :: ⟨0,some (.arr t9 9 [r9])⟩ :: ⟨0,some (.arr t5 5 [r10])⟩ :: ⟨n1,some (.arr tc 1 rc)⟩ :: ⟨n2,some (.arr tn 1 rn)⟩ :: T) (S ++ ⟨0,some (.arr t9 9 [r8])⟩ :: ⟨0,some (.arr t9 9 [r9])⟩ :: ⟨0,some (.arr t5 5 [r10])⟩ :: ⟨n1,some (.arr tc 1 rc)⟩ :: ⟨n2,some (.arr tn 1 rn)⟩ :: []) :=
  fgt_keep hn (L:=_ :: _ :: _ :: _ :: _ :: T) (L1:=[_,_,_,_,_]) ⟨rfl,.inr ⟨rfl,objN_one h8.1 h8.2⟩,rfl,.inr ⟨rfl,objN_one h9.1 h9.2⟩,rfl,.inr ⟨rfl,objN_one h10.1 h10.2⟩,rfl,.inr ⟨rfl,objN_imm hc⟩,rfl,.inr ⟨rfl,objN_imm hm⟩,by unfold keepL;cases T<;>trivial⟩
set_option maxHeartbeats 8000000 in
set_option maxRecDepth 20000 in
theorem trip_A (p : Pls) (hp : p.1.length ≤ 1000) (hz0 : ZnsOk p) (l : List Wnt) (hl : l.length ≤ 8) (hw : WOk l) (ty : Txt) (sale : Int) (S : Store) : CallA Tryz.prog 13 [plV p,.sl 8 (l.map wntR),.str ty,.int .i64 sale] S fun v S'=>v = .agg (trpR (tripF p l ty sale)) ∧ S' = S:=by
  refine CallA.withNeat Tryz.func13 c5009 fun hn=>?_
  refine CallA.fin Tryz.func13 c5009 (Nat.le_of_ble_eq_true rfl) fun σ hσ=>?_
  have cz:=fun S=>cities_A p hp l hl S
  simp only[plV] at cz
  simp (disch:=first|omega|(simp only[lenT];omega)) only[a5009,plV,evSt,↓eA,eB,evU,seval]
  cases hl0 : l with
  | nil =>
    simp (disch:=first|omega|(simp only[lenT];omega)) only[List.length_nil,evSt,↓eA,eB,evU,seval]
    exact ⟨.agg (trpR (tripF p [] ty sale)),S,hn.fgt _,frz_agg (show FrzAll _ _ _ [.str ty,.int .i64 sale,.int .i64 0,.int .i64 0,.int .i64 0,.int .i64 0,.sl 1 [],.sl 1 [],.sl 1 []] from ⟨.imm rfl,.imm rfl,.imm rfl,.imm rfl,.imm rfl,.imm rfl,.nil,.nil,.nil,trivial⟩),Nat.le_refl _,rfl,rfl⟩
  | cons w0 tl =>
  have hlen : l.length = tl.length + 1:=by rw[hl0];rfl
  have hne : ¬ ((l.length : Nat) : Int) = 0:=by omega
  have h0 : l[0]? = some w0:=by rw[hl0];rfl
  have hs : ∀ j,l[j + 1]? = tl[j]?:=fun j=>by rw[hl0];rfl
  rw[← hl0]
  have fz:=fun S=>find2_A p w0.s.f S hp
  have hzk:=fApt_ok hz0 w0.s.f
  have lc:=fun S=>local_A (fApt p w0.s.f).off (fApt p w0.s.f).sh (by have:=hzk.1;omega) w0.s.dep S
  have sp:=fun S=>split_A (locF (fApt p w0.s.f).off (fApt p w0.s.f).sh w0.s.dep) (wrap_rng _).1 (wrap_rng _).2 S
  simp only[plV,aptR] at fz
  refine ⟨fun h=>absurd h hne,fun _=>?_⟩
  simp (disch:=first|omega|(simp only[lenT];omega)) only[wntR,sgR,h0,evSt,↓eA,eB,evU,seval]
  apply LoopA.share (P:=Tryz.prog) (N:=101) (σ:=σ) ([(1,.sl 8 (l.map wntR)),(4,.cptr [.sl 5 (p.1.map aptR),.sl 3 (p.2.map dstR)]),(8,.ptr S.length 0 0 0),(9,.ptr (S.length + 1) 0 0 0),(46,.sl 8 (l.map wntR)),(47,.int .i64 l.length),(48,.int .i64 (0))]) (S ++ ⟨0,some (.arr 41 9 [[.str [],.int .i64 0,.int .i64 0,.int .i64 0,.int .i64 0,.int .i64 0,.nilSl,.nilSl,.nilSl]])⟩ :: ⟨0,some (.arr 41 9 [[.str ty,.int .i64 sale,.int .i64 (splitF (locF (fApt p w0.s.f).off (fApt p w0.s.f).sh w0.s.dep)).1,.int .i64 (splitF (locF (fApt p w0.s.f).off (fApt p w0.s.f).sh w0.s.dep)).2,.int .i64 0,.int .i64 0,.nilSl,.nilSl,.nilSl]])⟩ :: ⟨0,some (.arr 65 5 [[.str (fApt p w0.s.f).code,.str (fApt p w0.s.f).city,.str (fApt p w0.s.f).cty,.int .i64 (fApt p w0.s.f).off,.sl 2 ((fApt p w0.s.f).sh.map shR)]])⟩ :: [])
  · intro key
    refine ⟨?_,?_⟩
    all_goals
      refine (fz _).then ?_
      simp (disch:=first|omega|(simp only[lenT];omega)) only[aptR,wntR,sgR,h0,evSt,↓eA,eB,evU,seval]
      refine (lc _).then ?_
      simp (disch:=first|omega|(simp only[lenT];omega)) only[evSt,↓eA,eB,evU,seval]
      refine (sp _).then ?_
      simp (disch:=first|omega|(simp only[lenT];omega)) only[evSt,↓eA,eB,evU,seval]
    all_goals exact key.sub (by simp only[↓eA,eB,evU,seval])
  refine loopF (ι:=Nat) (fun i=>match i with | 0=>[(1,.sl 8 (l.map wntR)),(4,.cptr [.sl 5 (p.1.map aptR),.sl 3 (p.2.map dstR)]),(8,.ptr S.length 0 0 0),(9,.ptr (S.length + 1) 0 0 0),(46,.sl 8 (l.map wntR)),(47,.int .i64 l.length),(48,.int .i64 (0))] | j + 1=>[(1,.sl 8 (l.map wntR)),(4,.cptr [.sl 5 (p.1.map aptR),.sl 3 (p.2.map dstR)]),(8,.ptr S.length 0 0 0),(9,.ptr (S.length + 1) 0 0 0),(46,.sl 8 (l.map wntR)),(47,.int .i64 l.length),(48,.int .i64 (((j + 1 : Nat) : Int)))])
    (fun i=>match i with | 0=>S ++ ⟨0,some (.arr 41 9 [[.str [],.int .i64 0,.int .i64 0,.int .i64 0,.int .i64 0,.int .i64 0,.nilSl,.nilSl,.nilSl]])⟩ :: ⟨0,some (.arr 41 9 [[.str ty,.int .i64 sale,.int .i64 (splitF (locF (fApt p w0.s.f).off (fApt p w0.s.f).sh w0.s.dep)).1,.int .i64 (splitF (locF (fApt p w0.s.f).off (fApt p w0.s.f).sh w0.s.dep)).2,.int .i64 0,.int .i64 0,.nilSl,.nilSl,.nilSl]])⟩ :: ⟨0,some (.arr 65 5 [[.str (fApt p w0.s.f).code,.str (fApt p w0.s.f).city,.str (fApt p w0.s.f).cty,.int .i64 (fApt p w0.s.f).off,.sl 2 ((fApt p w0.s.f).sh.map shR)]])⟩ :: [] | j + 1=>S ++ ⟨0,some (.arr 41 9 [[.str [],.int .i64 0,.int .i64 0,.int .i64 0,.int .i64 0,.int .i64 0,.nilSl,.nilSl,.nilSl]])⟩ :: ⟨0,some (.arr 41 9 [[.str ty,.int .i64 sale,.int .i64 (splitF (locF (fApt p w0.s.f).off (fApt p w0.s.f).sh w0.s.dep)).1,.int .i64 (splitF (locF (fApt p w0.s.f).off (fApt p w0.s.f).sh w0.s.dep)).2,.int .i64 ((cntN stopB l (j + 1) : Nat) : Int),.int .i64 ((cntN (fun a b=>!stopB a b) l (j + 1) : Nat) : Int),(.msl (S.length + 4) j 0 (j + 1)),(.msl (S.length + 5) j 0 (j + 1)),.nilSl]])⟩ :: ⟨0,some (.arr 65 5 [[.str (fApt p w0.s.f).code,.str (fApt p w0.s.f).city,.str (fApt p w0.s.f).cty,.int .i64 (fApt p w0.s.f).off,.sl 2 ((fApt p w0.s.f).sh.map shR)]])⟩ :: ⟨0,none⟩ :: ⟨j,some (.arr 9 1 (txR w0.s.c :: ((tl.take j).map fun w=>txR w.s.c)))⟩ :: ⟨j,some (.arr 3 1 (inR w0.s.n :: ((tl.take j).map fun w=>inR w.s.n)))⟩ :: []) (fun i=>i ≤ l.length) (fun i=>l.length - i) (fun i hi=>by rw[hσ];cases i<;>simp) 0 (Nat.zero_le _) (.inl ⟨by simp only[↓eA,eB,evU,seval],rfl⟩) ?_
  rintro i hi
  cases hc : l[i]? with
  | none =>
    have hge : l.length ≤ i:=List.getElem?_eq_none_iff.1 hc
    have hlt : ¬ ((i : Int) < l.length):=by omega
    have hil : i = l.length:=by omega
    cases i with
    | zero=>omega
    | succ j =>
      simp (disch:=first|omega|(simp only[lenT];omega)) only[dF hlt,evSt,↓eA,eB,evU,seval]
      refine (cz _).then ?_
      have hcl:=cs_len p l (by rw[hl0];simp)
      have hcl2 : ((citiesF p l).map txR).length = l.length + 1:=by rw[List.length_map,hcl]
      have hc1 : ((l.length + 1 : Nat) : Int) - 1 = (l.length : Nat):=by omega
      have hc2 : (1 : Int) ≤ (l.length : Nat) ∧ ((l.length : Nat) : Int) ≤ ((l.length + 1 : Nat) : Int):=by omega
      simp (disch:=first|omega|(simp only[lenT];omega)) only[hcl,hcl2,hc1,if_pos hc2,Int.toNat_natCast,wrap_i64,evSt,↓eA,eB,evU,seval]
      have hjl : j + 1 = l.length:=hil
      have hv : (citiesF p l).tail.dropLast = ((citiesF p l).drop 1).take (l.length - 1):=by
        rw[List.dropLast_eq_take,List.length_tail,hcl,List.drop_one];rfl
      have hcr : l.map (fun w=>w.s.c) = w0.s.c :: (tl.take j).map (fun w=>w.s.c):=by rw[hl0,List.take_of_length_le (by omega)];rfl
      have hnr : l.map (fun w=>w.s.n) = w0.s.n :: (tl.take j).map (fun w=>w.s.n):=by rw[hl0,List.take_of_length_le (by omega)];rfl
      have ht : trpR (tripF p l ty sale) = [.str ty,.int .i64 sale,.int .i64 (splitF (locF (fApt p w0.s.f).off (fApt p w0.s.f).sh w0.s.dep)).1,.int .i64 (splitF (locF (fApt p w0.s.f).off (fApt p w0.s.f).sh w0.s.dep)).2,.int .i64 ((cntN stopB l (j + 1) : Nat) : Int),.int .i64 ((cntN (fun a b=>!stopB a b) l (j + 1) : Nat) : Int),.sl 1 (txR w0.s.c :: (tl.take j).map (fun w=>txR w.s.c)),.sl 1 (inR w0.s.n :: (tl.take j).map (fun w=>inR w.s.n)),.sl 1 ((((citiesF p l).drop 1).take (l.length - 1)).map txR)]:=by
        have e : tripF p l ty sale = ⟨ty,sale,(splitF (locF (fApt p w0.s.f).off (fApt p w0.s.f).sh w0.s.dep)).1,(splitF (locF (fApt p w0.s.f).off (fApt p w0.s.f).sh w0.s.dep)).2,(cntN stopB l l.length : Nat),(cntN (fun a b=>!stopB a b) l l.length : Nat),l.map (fun w=>w.s.c),l.map (fun w=>w.s.n),(citiesF p l).tail.dropLast⟩:=by
          rw[hl0]
          simp only[tripF,zone_eq,localZ,locF]
        rw[e,hcr,hnr,hv,← hjl]
        simp only[trpR,List.map_cons,List.map_map]
        rfl
      refine ⟨.agg (trpR (tripF p l ty sale)),S,hn.fgt _,?_,Nat.le_refl _,rfl,rfl⟩
      rw[ht]
      have i1:=tx_imm (w0.s.c :: (tl.take j).map (fun w=>w.s.c))
      have i2:=inR_imm (w0.s.n :: (tl.take j).map (fun w=>w.s.n))
      simp only[List.map_cons,List.map_map] at i1 i2
      exact frz_agg ⟨.imm rfl,.imm rfl,.imm rfl,.imm rfl,.imm rfl,.imm rfl,.sl (t:=9) (by omega) (by rw[ob_app];rw[ob_cons];rw[ob_cons];rw[ob_cons];rw[ob_cons];rw[ob_head]) (by simp;omega) i1,.sl (t:=3) (by omega) (by rw[ob_app];rw[ob_cons];rw[ob_cons];rw[ob_cons];rw[ob_cons];rw[ob_cons];rw[ob_head]) (by simp;omega) i2,.imm rfl,trivial⟩
  | some y =>
    have hlt':=(List.getElem?_eq_some_iff.1 hc).1
    have hlt : ((i : Int) < l.length):=by omega
    have hk1 : (i : Int) + 1 = ((i + 1 : Nat) : Int):=by omega
    cases i with
    | zero =>
      have hlt0 : ((0 : Int) < l.length):=by omega
      simp (maxSteps:=5000000) (disch:=first|omega|(simp only[lenT];omega)) only[dT hlt0,roomA,h0,wntR,sgR,wrap_i64,evSt,↓eA,eB,evU,seval]
      refine ⟨0 + 1,by omega,by omega,?_⟩
      simp only[cnt_one1,List.take_zero,List.map_nil]
      exact back_under (fgtT1 hn ⟨rfl,rfl⟩ ⟨rfl,by simp [V.allUnder,V.under]⟩ ⟨rfl,rfl⟩ (tx_imm [_]) (inR_imm [_])) (by simp only[↓eA,eB,evU,seval];try rfl) (by simp [V.under,V.allUnder])
    | succ j =>
      have hj : j < l.length:=by omega
      have hcj : l[j]? = some l[j]:=List.getElem?_eq_getElem hj
      generalize l[j] = z at hcj
      have hy:=hw y (List.mem_of_getElem? hc)
      have hz:=hw z (List.mem_of_getElem? hcj)
      have hn0 : ¬ ((j + 1 : Nat) : Int) = 0:=by omega
      have hjm : ((j + 1 : Nat) : Int) - 1 = (j : Int):=by omega
      have hct:=hs j
      rw[hc] at hct
      have htl:=(List.getElem?_eq_some_iff.1 hct.symm).1
      have hcc : (tl.take (j + 1)).map (fun w=>txR w.s.c) = (tl.take j).map (fun w=>txR w.s.c) ++ [txR y.s.c]:=by rw[take_at hct.symm];simp
      have hcn : (tl.take (j + 1)).map (fun w=>inR w.s.n) = (tl.take j).map (fun w=>inR w.s.n) ++ [inR y.s.n]:=by rw[take_at hct.symm];simp
      have hjc : ((tl.take j).map (fun w=>txR w.s.c)).length = j:=by rw[List.length_map,List.length_take];omega
      have hjn : ((tl.take j).map (fun w=>inR w.s.n)).length = j:=by rw[List.length_map,List.length_take];omega
      have k1:=cnt_next stopB l hcj hc
      have k2:=cnt_next (fun a b=>!stopB a b) l hcj hc
      have q1:=cnt_le stopB l (j + 1)
      have q2:=cnt_le (fun a b=>!stopB a b) l (j + 1)
      simp (disch:=first|omega|(simp only[lenT];omega)) only[dT hlt,dF hn0,hjm,hc,hcj,app_at4 (n:=j) hjc (by omega),app_at5 (n:=j) hjn (by omega),wntR,sgR,wrap_i64,evSt,↓eA,eB,evU,seval]
      refine ⟨by rw[List.length_take];omega,by unfold roomA;omega,by rw[List.length_take];omega,by unfold roomA;omega,?_⟩
      refine (stops_A2 z.s.arr y.s.dep hz.2 hy.1 _).then ?_
      have i1:=tx_imm (w0.s.c :: ((tl.take j).map (fun w=>w.s.c) ++ [y.s.c]))
      have i2:=inR_imm (w0.s.n :: ((tl.take j).map (fun w=>w.s.n) ++ [y.s.n]))
      simp only[List.map_cons,List.map_map,List.map_append,List.map_nil] at i1 i2
      have hsb : stopB z y = decide (1440 ≤ y.s.dep - z.s.arr):=rfl
      rw[hsb] at k1 k2
      cases hst : decide (1440 ≤ y.s.dep - z.s.arr)<;>rw[hst] at k1 k2<;>simp only[Bool.not_false,if_true,Bool.false_eq_true,if_false,Nat.add_zero] at k1 k2<;>simp (disch:=first|omega|(simp only[lenT];omega)) only[hst,hk1,wrap_i64,evSt,↓eA,eB,evU,seval]
      all_goals
        refine ⟨j + 1 + 1,by omega,by omega,?_⟩
        simp only[k1,k2,hcc,hcn]
        exact back_under (fgtT1 hn ⟨rfl,rfl⟩ ⟨rfl,by simp [V.allUnder,V.under]⟩ ⟨rfl,rfl⟩ i1 i2) (by simp only[↓eA,eB,evU,seval];try rfl) (by simp [V.under,V.allUnder])
set_option maxHeartbeats 8000000 in
set_option maxRecDepth 20000 in
theorem rtrip_A (p : Pls) (hp : p.1.length ≤ 1000) (hz0 : ZnsOk p) (l : List Wnt) (hl : l.length ≤ 8) (hw : WOk l) (ty : Txt) (sale : Int) (S : Store) : CallA Tryz.prog 14 [plV p,.sl 8 (l.map wntR),.str ty,.int .i64 sale] S fun v S'=>v = .agg (trpR (tripF p l ty sale)) ∧ S' = S:=by
  refine CallA.withNeat Tryz.func14 c5020 fun hn=>?_
  refine CallA.fin Tryz.func14 c5020 (Nat.le_of_ble_eq_true rfl) fun σ hσ=>?_
  have cz:=fun S=>rcities_A p hp l hl S
  simp only[plV] at cz
  simp (disch:=first|omega|(simp only[lenT];omega)) only[a5020,plV,evSt,↓eA,eB,evU,seval]
  cases hl0 : l with
  | nil =>
    simp (disch:=first|omega|(simp only[lenT];omega)) only[List.length_nil,evSt,↓eA,eB,evU,seval]
    exact ⟨.agg (trpR (tripF p [] ty sale)),S,hn.fgt _,frz_agg (show FrzAll _ _ _ [.str ty,.int .i64 sale,.int .i64 0,.int .i64 0,.int .i64 0,.int .i64 0,.sl 1 [],.sl 1 [],.sl 1 []] from ⟨.imm rfl,.imm rfl,.imm rfl,.imm rfl,.imm rfl,.imm rfl,.nil,.nil,.nil,trivial⟩),Nat.le_refl _,rfl,rfl⟩
  | cons w0 tl =>
  have hlen : l.length = tl.length + 1:=by rw[hl0];rfl
  have hne : ¬ ((l.length : Nat) : Int) = 0:=by omega
  have h0 : l[0]? = some w0:=by rw[hl0];rfl
  have hs : ∀ j,l[j + 1]? = tl[j]?:=fun j=>by rw[hl0];rfl
  rw[← hl0]
  have fz:=fun S=>rfind2_A p w0.s.f S hp
  have hzk:=fApt_ok hz0 w0.s.f
  have lc:=fun S=>rlocal_A (fApt p w0.s.f).off (fApt p w0.s.f).sh (by have:=hzk.1;omega) hzk.2 w0.s.dep S
  have sp:=fun S=>rsplit_A (locF (fApt p w0.s.f).off (fApt p w0.s.f).sh w0.s.dep) (wrap_rng _).1 (wrap_rng _).2 S
  simp only[plV,aptR] at fz
  refine ⟨fun h=>absurd h hne,fun _=>?_⟩
  simp (disch:=first|omega|(simp only[lenT];omega)) only[wntR,sgR,h0,evSt,↓eA,eB,evU,seval]
  apply LoopA.share (P:=Tryz.prog) (N:=108) (σ:=σ) ([(1,.sl 8 (l.map wntR)),(4,.cptr [.sl 5 (p.1.map aptR),.sl 3 (p.2.map dstR)]),(8,.ptr S.length 0 0 0),(9,.ptr (S.length + 1) 0 0 0),(12,.int .i64 (0))]) (S ++ ⟨0,some (.arr 41 9 [[.str [],.int .i64 0,.int .i64 0,.int .i64 0,.int .i64 0,.int .i64 0,.nilSl,.nilSl,.nilSl]])⟩ :: ⟨0,some (.arr 41 9 [[.str ty,.int .i64 sale,.int .i64 (splitF (locF (fApt p w0.s.f).off (fApt p w0.s.f).sh w0.s.dep)).1,.int .i64 (splitF (locF (fApt p w0.s.f).off (fApt p w0.s.f).sh w0.s.dep)).2,.int .i64 0,.int .i64 0,.nilSl,.nilSl,.nilSl]])⟩ :: ⟨0,some (.arr 65 5 [[.str (fApt p w0.s.f).code,.str (fApt p w0.s.f).city,.str (fApt p w0.s.f).cty,.int .i64 (fApt p w0.s.f).off,.sl 2 ((fApt p w0.s.f).sh.map shR)]])⟩ :: [])
  · intro key
    refine ⟨?_,?_⟩
    all_goals
      refine (fz _).then ?_
      simp (disch:=first|omega|(simp only[lenT];omega)) only[aptR,wntR,sgR,h0,evSt,↓eA,eB,evU,seval]
      refine (lc _).then ?_
      simp (disch:=first|omega|(simp only[lenT];omega)) only[evSt,↓eA,eB,evU,seval]
      refine (sp _).then ?_
      simp (disch:=first|omega|(simp only[lenT];omega)) only[evSt,↓eA,eB,evU,seval]
    all_goals exact key.sub (by simp only[↓eA,eB,evU,seval])
  refine loopF (ι:=Nat) (fun i=>match i with | 0=>[(1,.sl 8 (l.map wntR)),(4,.cptr [.sl 5 (p.1.map aptR),.sl 3 (p.2.map dstR)]),(8,.ptr S.length 0 0 0),(9,.ptr (S.length + 1) 0 0 0),(12,.int .i64 (0))] | j + 1=>[(1,.sl 8 (l.map wntR)),(4,.cptr [.sl 5 (p.1.map aptR),.sl 3 (p.2.map dstR)]),(8,.ptr S.length 0 0 0),(9,.ptr (S.length + 1) 0 0 0),(12,.int .i64 (((j + 1 : Nat) : Int)))])
    (fun i=>match i with | 0=>S ++ ⟨0,some (.arr 41 9 [[.str [],.int .i64 0,.int .i64 0,.int .i64 0,.int .i64 0,.int .i64 0,.nilSl,.nilSl,.nilSl]])⟩ :: ⟨0,some (.arr 41 9 [[.str ty,.int .i64 sale,.int .i64 (splitF (locF (fApt p w0.s.f).off (fApt p w0.s.f).sh w0.s.dep)).1,.int .i64 (splitF (locF (fApt p w0.s.f).off (fApt p w0.s.f).sh w0.s.dep)).2,.int .i64 0,.int .i64 0,.nilSl,.nilSl,.nilSl]])⟩ :: ⟨0,some (.arr 65 5 [[.str (fApt p w0.s.f).code,.str (fApt p w0.s.f).city,.str (fApt p w0.s.f).cty,.int .i64 (fApt p w0.s.f).off,.sl 2 ((fApt p w0.s.f).sh.map shR)]])⟩ :: [] | j + 1=>S ++ ⟨0,some (.arr 41 9 [[.str [],.int .i64 0,.int .i64 0,.int .i64 0,.int .i64 0,.int .i64 0,.nilSl,.nilSl,.nilSl]])⟩ :: ⟨0,some (.arr 41 9 [[.str ty,.int .i64 sale,.int .i64 (splitF (locF (fApt p w0.s.f).off (fApt p w0.s.f).sh w0.s.dep)).1,.int .i64 (splitF (locF (fApt p w0.s.f).off (fApt p w0.s.f).sh w0.s.dep)).2,.int .i64 ((cntN stopB l (j + 1) : Nat) : Int),.int .i64 ((cntN (fun a b=>!stopB a b) l (j + 1) : Nat) : Int),(.msl (S.length + 3) j 0 (j + 1)),(.msl (S.length + 4) j 0 (j + 1)),.nilSl]])⟩ :: ⟨0,some (.arr 65 5 [[.str (fApt p w0.s.f).code,.str (fApt p w0.s.f).city,.str (fApt p w0.s.f).cty,.int .i64 (fApt p w0.s.f).off,.sl 2 ((fApt p w0.s.f).sh.map shR)]])⟩ :: ⟨j,some (.arr 9 1 (txR w0.s.c :: ((tl.take j).map fun w=>txR w.s.c)))⟩ :: ⟨j,some (.arr 3 1 (inR w0.s.n :: ((tl.take j).map fun w=>inR w.s.n)))⟩ :: []) (fun i=>i ≤ l.length) (fun i=>l.length - i) (fun i hi=>by rw[hσ];cases i<;>simp) 0 (Nat.zero_le _) (.inl ⟨by simp only[↓eA,eB,evU,seval],rfl⟩) ?_
  rintro i hi
  cases hc : l[i]? with
  | none =>
    have hge : l.length ≤ i:=List.getElem?_eq_none_iff.1 hc
    have hlt : ¬ ((i : Int) < l.length):=by omega
    have hil : i = l.length:=by omega
    cases i with
    | zero=>omega
    | succ j =>
      simp (disch:=first|omega|(simp only[lenT];omega)) only[dF hlt,evSt,↓eA,eB,evU,seval]
      refine (cz _).then ?_
      have hcl:=cs_len p l (by rw[hl0];simp)
      have hcl2 : ((citiesF p l).map txR).length = l.length + 1:=by rw[List.length_map,hcl]
      have hc1 : ((l.length + 1 : Nat) : Int) - 1 = (l.length : Nat):=by omega
      have hc2 : (1 : Int) ≤ (l.length : Nat) ∧ ((l.length : Nat) : Int) ≤ ((l.length + 1 : Nat) : Int):=by omega
      simp (disch:=first|omega|(simp only[lenT];omega)) only[hcl,hcl2,hc1,if_pos hc2,Int.toNat_natCast,wrap_i64,evSt,↓eA,eB,evU,seval]
      have hjl : j + 1 = l.length:=hil
      have hv : (citiesF p l).tail.dropLast = ((citiesF p l).drop 1).take (l.length - 1):=by
        rw[List.dropLast_eq_take,List.length_tail,hcl,List.drop_one];rfl
      have hcr : l.map (fun w=>w.s.c) = w0.s.c :: (tl.take j).map (fun w=>w.s.c):=by rw[hl0,List.take_of_length_le (by omega)];rfl
      have hnr : l.map (fun w=>w.s.n) = w0.s.n :: (tl.take j).map (fun w=>w.s.n):=by rw[hl0,List.take_of_length_le (by omega)];rfl
      have ht : trpR (tripF p l ty sale) = [.str ty,.int .i64 sale,.int .i64 (splitF (locF (fApt p w0.s.f).off (fApt p w0.s.f).sh w0.s.dep)).1,.int .i64 (splitF (locF (fApt p w0.s.f).off (fApt p w0.s.f).sh w0.s.dep)).2,.int .i64 ((cntN stopB l (j + 1) : Nat) : Int),.int .i64 ((cntN (fun a b=>!stopB a b) l (j + 1) : Nat) : Int),.sl 1 (txR w0.s.c :: (tl.take j).map (fun w=>txR w.s.c)),.sl 1 (inR w0.s.n :: (tl.take j).map (fun w=>inR w.s.n)),.sl 1 ((((citiesF p l).drop 1).take (l.length - 1)).map txR)]:=by
        have e : tripF p l ty sale = ⟨ty,sale,(splitF (locF (fApt p w0.s.f).off (fApt p w0.s.f).sh w0.s.dep)).1,(splitF (locF (fApt p w0.s.f).off (fApt p w0.s.f).sh w0.s.dep)).2,(cntN stopB l l.length : Nat),(cntN (fun a b=>!stopB a b) l l.length : Nat),l.map (fun w=>w.s.c),l.map (fun w=>w.s.n),(citiesF p l).tail.dropLast⟩:=by
          rw[hl0]
          simp only[tripF,zone_eq,localZ,locF]
        rw[e,hcr,hnr,hv,← hjl]
        simp only[trpR,List.map_cons,List.map_map]
        rfl
      refine ⟨.agg (trpR (tripF p l ty sale)),S,hn.fgt _,?_,Nat.le_refl _,rfl,rfl⟩
      rw[ht]
      have i1:=tx_imm (w0.s.c :: (tl.take j).map (fun w=>w.s.c))
      have i2:=inR_imm (w0.s.n :: (tl.take j).map (fun w=>w.s.n))
      simp only[List.map_cons,List.map_map] at i1 i2
      exact frz_agg ⟨.imm rfl,.imm rfl,.imm rfl,.imm rfl,.imm rfl,.imm rfl,.sl (t:=9) (by omega) (by rw[ob_app];rw[ob_cons];rw[ob_cons];rw[ob_cons];rw[ob_head]) (by simp;omega) i1,.sl (t:=3) (by omega) (by rw[ob_app];rw[ob_cons];rw[ob_cons];rw[ob_cons];rw[ob_cons];rw[ob_head]) (by simp;omega) i2,.imm rfl,trivial⟩
  | some y =>
    have hlt':=(List.getElem?_eq_some_iff.1 hc).1
    have hlt : ((i : Int) < l.length):=by omega
    have hk1 : (i : Int) + 1 = ((i + 1 : Nat) : Int):=by omega
    cases i with
    | zero =>
      have hlt0 : ((0 : Int) < l.length):=by omega
      simp (maxSteps:=5000000) (disch:=first|omega|(simp only[lenT];omega)) only[dT hlt0,roomA,h0,wntR,sgR,wrap_i64,evSt,↓eA,eB,evU,seval]
      repeat' apply And.intro
      all_goals
        refine ⟨0 + 1,by omega,by omega,?_⟩
        simp only[cnt_one1,List.take_zero,List.map_nil]
        exact back_under (fgtT2 hn ⟨rfl,rfl⟩ ⟨rfl,by simp [V.allUnder,V.under]⟩ ⟨rfl,rfl⟩ (tx_imm [_]) (inR_imm [_])) (by simp only[↓eA,eB,evU,seval];try rfl) (by simp [V.under,V.allUnder])
    | succ j =>
      have hj : j < l.length:=by omega
      have hcj : l[j]? = some l[j]:=List.getElem?_eq_getElem hj
      generalize l[j] = z at hcj
      have hy:=hw y (List.mem_of_getElem? hc)
      have hz:=hw z (List.mem_of_getElem? hcj)
      have hn0 : ¬ ((j + 1 : Nat) : Int) = 0:=by omega
      have hjm : ((j + 1 : Nat) : Int) - 1 = (j : Int):=by omega
      have hct:=hs j
      rw[hc] at hct
      have htl:=(List.getElem?_eq_some_iff.1 hct.symm).1
      have hcc : (tl.take (j + 1)).map (fun w=>txR w.s.c) = (tl.take j).map (fun w=>txR w.s.c) ++ [txR y.s.c]:=by rw[take_at hct.symm];simp
      have hcn : (tl.take (j + 1)).map (fun w=>inR w.s.n) = (tl.take j).map (fun w=>inR w.s.n) ++ [inR y.s.n]:=by rw[take_at hct.symm];simp
      have hjc : ((tl.take j).map (fun w=>txR w.s.c)).length = j:=by rw[List.length_map,List.length_take];omega
      have hjn : ((tl.take j).map (fun w=>inR w.s.n)).length = j:=by rw[List.length_map,List.length_take];omega
      have k1:=cnt_next stopB l hcj hc
      have k2:=cnt_next (fun a b=>!stopB a b) l hcj hc
      have q1:=cnt_le stopB l (j + 1)
      have q2:=cnt_le (fun a b=>!stopB a b) l (j + 1)
      have i1:=tx_imm (w0.s.c :: ((tl.take j).map (fun w=>w.s.c) ++ [y.s.c]))
      have i2:=inR_imm (w0.s.n :: ((tl.take j).map (fun w=>w.s.n) ++ [y.s.n]))
      simp only[List.map_cons,List.map_map,List.map_append,List.map_nil] at i1 i2
      have hsb : stopB z y = decide (1440 ≤ y.s.dep - z.s.arr):=rfl
      rw[hsb] at k1 k2
      cases hst : decide (1440 ≤ y.s.dep - z.s.arr)<;>rw[hst] at k1 k2<;>simp only[Bool.not_false,if_true,Bool.false_eq_true,if_false,Nat.add_zero] at k1 k2<;>simp (maxSteps:=5000000) (disch:=first|omega|(simp only[lenT];omega)) only[dT hlt,dF hn0,hjm,hc,hcj,hst,hk1,wntR,sgR,wrap_i64,evSt,↓eA,eB,evU,seval]<;>repeat' apply And.intro
      all_goals first
        | (rw[List.length_take];omega)
        | (unfold roomA;omega)
        | (refine ⟨j + 1 + 1,by omega,by omega,?_⟩
           simp only[k1,k2,hcc,hcn]
           exact back_under (fgtT2 hn ⟨rfl,rfl⟩ ⟨rfl,by simp [V.allUnder,V.under]⟩ ⟨rfl,rfl⟩ i1 i2) (by simp only[↓eA,eB,evU,seval];try rfl) (by simp [V.under,V.allUnder]))
end Go.Proofs.YtanmnoipikdplaaGreat
