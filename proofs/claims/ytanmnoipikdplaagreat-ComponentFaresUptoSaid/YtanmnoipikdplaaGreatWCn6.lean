/- Component: cities along segments, both sides. -/
import Derived.Test.YtanmnoipikdplaaGreatWCn3
namespace Go.Proofs.YtanmnoipikdplaaGreat
open Go Go.AL
set_option linter.unusedSectionVars false
variable [Go.AL.Mode]
set_option linter.unusedSimpArgs false
set_option linter.unusedVariables false
theorem app_at0 {S T : Store} {n : Nat} {q : TypeId} {sz : Nat} {r0 r : List V} {rs : List (List V)} {K : V → Store → Prop} (hn : rs.length = n) (h : n < 1000000) :
    appK q sz (.msl S.length n 0 (n + 1)) (some (sz,[r])) (S ++ ⟨n,some (.arr q sz (r0 :: rs))⟩ :: T) K = K (.msl S.length (n + 1) 0 (n + 2)) (S ++ ⟨n + 1,some (.arr q sz (r0 :: (rs ++ [r])))⟩ :: T):=by
  subst hn
  rw[app_msl,ob_app0,ob_head,appO_some,se_app0]
  simp only[List.length_cons,List.length_append,List.length_nil,List.set_cons_zero,List.set_cons_succ,List.cons_append]
  simp [roomA]
  intro _
  omega
theorem app_at1 {S T : Store} {x0 : AL.Obj} {n : Nat} {q : TypeId} {sz : Nat} {r0 r : List V} {rs : List (List V)} {K : V → Store → Prop} (hn : rs.length = n) (h : n < 1000000) :
    appK q sz (.msl (S.length + 1) n 0 (n + 1)) (some (sz,[r])) (S ++ x0 :: ⟨n,some (.arr q sz (r0 :: rs))⟩ :: T) K = K (.msl (S.length + 1) (n + 1) 0 (n + 2)) (S ++ x0 :: ⟨n + 1,some (.arr q sz (r0 :: (rs ++ [r])))⟩ :: T):=by
  subst hn
  rw[app_msl,ob_app,ob_cons,ob_head,appO_some,se_app]
  simp only[List.length_cons,List.length_append,List.length_nil,List.set_cons_zero,List.set_cons_succ,List.cons_append]
  simp [roomA]
  intro _
  omega
theorem app_at4 {S T : Store} {x0 x1 x2 x3 : AL.Obj} {n : Nat} {q : TypeId} {sz : Nat} {r0 r : List V} {rs : List (List V)} {K : V → Store → Prop} (hn : rs.length = n) (h : n < 1000000) :
    appK q sz (.msl (S.length + 4) n 0 (n + 1)) (some (sz,[r])) (S ++ x0 :: x1 :: x2 :: x3 :: ⟨n,some (.arr q sz (r0 :: rs))⟩ :: T) K = K (.msl (S.length + 4) (n + 1) 0 (n + 2)) (S ++ x0 :: x1 :: x2 :: x3 :: ⟨n + 1,some (.arr q sz (r0 :: (rs ++ [r])))⟩ :: T):=by
  subst hn
  rw[app_msl,ob_app,ob_cons,ob_cons,ob_cons,ob_cons,ob_head,appO_some,se_app]
  simp only[List.length_cons,List.length_append,List.length_nil,List.set_cons_zero,List.set_cons_succ,List.cons_append]
  simp [roomA]
  intro _
  omega
theorem app_at5 {S T : Store} {x0 x1 x2 x3 x4 : AL.Obj} {n : Nat} {q : TypeId} {sz : Nat} {r0 r : List V} {rs : List (List V)} {K : V → Store → Prop} (hn : rs.length = n) (h : n < 1000000) :
    appK q sz (.msl (S.length + 5) n 0 (n + 1)) (some (sz,[r])) (S ++ x0 :: x1 :: x2 :: x3 :: x4 :: ⟨n,some (.arr q sz (r0 :: rs))⟩ :: T) K = K (.msl (S.length + 5) (n + 1) 0 (n + 2)) (S ++ x0 :: x1 :: x2 :: x3 :: x4 :: ⟨n + 1,some (.arr q sz (r0 :: (rs ++ [r])))⟩ :: T):=by
  subst hn
  rw[app_msl,ob_app,ob_cons,ob_cons,ob_cons,ob_cons,ob_cons,ob_head,appO_some,se_app]
  simp only[List.length_cons,List.length_append,List.length_nil,List.set_cons_zero,List.set_cons_succ,List.cons_append]
  simp [roomA]
  intro _
  omega
theorem CallA.refrz {f : FuncId} {args : List V} {S : Store} {v v1 : V} (h : CallA Tryz.prog f args S fun r S'=>r = v ∧ S' = S) (hf : Neat S → Frz S S v v1) : CallA Tryz.prog f args S fun r S'=>r = v1 ∧ S' = S:=by
  refine ⟨h.1,fun ρ w us hi hv=>(h.2 ρ w us hi hv).mono fun en w' ⟨ρ',S',r,u,h1,h2,h3,h4,h5⟩=>?_⟩
  obtain ⟨rfl,rfl⟩:=h5
  have hn:=h3.neat
  exact ⟨ρ',S',v1,u,h1,(hf hn).rel hn.self h3 h2,h3,h4,rfl,rfl⟩
theorem fgt_dk {S T : Store} (hn : Neat S) {v ver : Nat} {x : Option Cont} {t : TypeId} {sz : Nat} {rows : List (List V)} (hr : ∀ r ∈ rows,r.length = sz ∧ V.allImm r = true) : Fgt (S ++ ⟨v,x⟩ :: ⟨ver,some (.arr t sz rows)⟩ :: T) (S ++ ⟨v,none⟩ :: ⟨ver,some (.arr t sz rows)⟩ :: []) :=
  hn.fgtL (L:=_ :: _ :: T) (L1:=[_,_]) ⟨rfl,trivial,rfl,⟨_,rfl,.imm hr⟩,fgtL_nil⟩
theorem tx_imm (l : List Txt) : ∀ r ∈ l.map txR,r.length = 1 ∧ V.allImm r = true:=fun r hr=>by
  obtain ⟨x,_,rfl⟩:=List.mem_map.1 hr
  exact ⟨rfl,rfl⟩
theorem cs_len (p : Pls) (l : List Wnt) : l ≠ [] → (citiesF p l).length = l.length + 1:=by
  cases l with
  | nil=>exact fun h=>absurd rfl h
  | cons w r=>intro _;simp [citiesF]
set_option maxHeartbeats 2000000 in
theorem cities_A (p : Pls) (hp : p.1.length ≤ 1000) (l : List Wnt) (hl : l.length ≤ 8) (S : Store) : CallA Tryz.prog 10 [plV p,.sl 8 (l.map wntR)] S fun v S'=>v = .sl 1 ((citiesF p l).map txR) ∧ S' = S:=by
  refine CallA.withNeat Tryz.func10 c5008 fun hn=>?_
  refine CallA.fin Tryz.func10 c5008 (Nat.le_of_ble_eq_true rfl) fun σ hσ=>?_
  have cz:=fun c S=>Ml.city_A p c S (by omega)
  simp only[plV] at cz
  simp (disch:=first|omega|(simp only[lenT];omega)) only[a5008,plV,evSt,↓eA,eB,evU,seval]
  obtain ⟨w0,hw0⟩ : ∃ w0 : Wnt,∀ w r,l = w :: r → w0 = w:=by
    cases l with
    | nil=>exact ⟨⟨⟨[],0,0,[],[],0,0⟩,[]⟩,fun w r h=>by cases h⟩
    | cons w r=>exact ⟨w,fun w' r' h=>by cases h;rfl⟩
  refine loopF (ι:=Nat) (fun i=>match i with | 0=>[(2,.cptr [.sl 5 (p.1.map aptR),.sl 3 (p.2.map dstR)]),(5,.nilSl),(8,.sl 8 (l.map wntR)),(9,.int .i64 l.length),(10,.int .i64 (0 : Nat))] | j + 1=>[(2,.cptr [.sl 5 (p.1.map aptR),.sl 3 (p.2.map dstR)]),(5,.msl (S.length + 1) (j + 1) 0 (j + 2)),(8,.sl 8 (l.map wntR)),(9,.int .i64 l.length),(10,.int .i64 ((j + 1 : Nat) : Int))])
    (fun i=>match i with | 0=>S | j + 1=>S ++ ⟨0,none⟩ :: ⟨j + 1,some (.arr 9 1 (txR (Ml.cityF p.1 w0.s.f) :: ((l.take (j + 1)).map fun w=>txR (Ml.cityF p.1 w.s.t))))⟩ :: []) (fun i=>i ≤ l.length) (fun i=>l.length - i) (fun i hi=>by rw[hσ];cases i<;>simp) 0 (Nat.zero_le _) (.inl ⟨?_,rfl⟩) ?_
  · simp only[↓eA,eB,evU,seval]
    try rfl
  rintro i hi
  cases hc : l[i]? with
  | none =>
    have hge : l.length ≤ i:=List.getElem?_eq_none_iff.1 hc
    have hlt : ¬ ((i : Int) < l.length):=by omega
    have hil : i = l.length:=by omega
    cases i with
    | zero =>
      have hnil : l = []:=List.length_eq_zero_iff.1 hil.symm
      have hlt0 : ¬ ((0 : Int) < l.length):=by omega
      simp (disch:=first|omega|(simp only[lenT];omega)) only[dF hlt0,evSt,↓eA,eB,evU,seval]
      refine ⟨.sl 1 ((citiesF p l).map txR),S,hn.self,?_,Nat.le_refl _,rfl,rfl⟩
      rw[hnil]
      exact .nil
    | succ j =>
      simp (disch:=first|omega|(simp only[lenT];omega)) only[dF hlt,evSt,↓eA,eB,evU,seval]
      have hcs : citiesF p l = Ml.cityF p.1 w0.s.f :: (l.take (j + 1)).map fun w=>Ml.cityF p.1 w.s.t:=by
        cases l with
        | nil=>simp at hil
        | cons w r=>rw[hw0 w r rfl,List.take_of_length_le (by omega),citiesF]
      have him:=tx_imm (citiesF p l)
      have hrows : (citiesF p l).map txR = txR (Ml.cityF p.1 w0.s.f) :: ((l.take (j + 1)).map fun w=>txR (Ml.cityF p.1 w.s.t)):=by rw[hcs,List.map_cons,List.map_map];rfl
      have hlen:=cs_len p l (by intro h;rw[h] at hil;simp at hil)
      rw[hrows] at him
      refine ⟨.sl 1 ((citiesF p l).map txR),S,hn.fgt _,?_,Nat.le_refl _,rfl,rfl⟩
      rw[hrows]
      refine .sl (t:=9) (by omega) (by rw[ob_app,ob_cons,ob_head]) (by simp;omega) ?_
      exact him
  | some y =>
    have hlt':=(List.getElem?_eq_some_iff.1 hc).1
    have hlt : ((i : Int) < l.length):=by omega
    have hk1 : (i : Int) + 1 = ((i + 1 : Nat) : Int):=by omega
    cases i with
    | zero =>
      have hy : w0 = y:=by
        cases l with
        | nil=>simp at hc
        | cons w r=>simp only[List.getElem?_cons_zero,Option.some.injEq] at hc;rw[hw0 w r rfl,hc]
      subst hy
      have htk : (l.take (0 + 1)).map (fun w=>txR (Ml.cityF p.1 w.s.t)) = [txR (Ml.cityF p.1 w0.s.t)]:=by rw[take_at hc];rfl
      obtain ⟨⟨s1,s2,s3,s4,s5,s6,s7⟩,s8⟩:=w0
      have hlt0 : ((0 : Int) < l.length):=by omega
      simp (disch:=first|omega|(simp only[lenT];omega)) only[dT hlt0,hc,wntR,sgR,evSt,↓eA,eB,evU,seval]
      refine (cz _ _).then ?_
      simp (disch:=first|omega|(simp only[lenT];omega)) only[roomA,wntR,sgR,hc,evSt,↓eA,eB,evU,seval]
      refine (cz _ _).then ?_
      simp (disch:=first|omega|(simp only[lenT];omega)) only[roomA,wrap_i64,hk1,evSt,↓eA,eB,evU,seval]
      refine ⟨0 + 1,by omega,by omega,?_⟩
      simp only[htk]
      exact back_under (fgt_dk hn (tx_imm [_,_])) (by simp only[↓eA,eB,evU,seval];try rfl) (by simp [V.under,V.allUnder])
    | succ j =>
      have htk : (l.take (j + 1 + 1)).map (fun w=>txR (Ml.cityF p.1 w.s.t)) = (l.take (j + 1)).map (fun w=>txR (Ml.cityF p.1 w.s.t)) ++ [txR (Ml.cityF p.1 y.s.t)]:=by rw[take_at hc];simp
      have hjl : ((l.take (j + 1)).map (fun w=>txR (Ml.cityF p.1 w.s.t))).length = j + 1:=by simp;omega
      have h0 : ¬ ((j + 1 : Nat) : Int) = 0:=by omega
      obtain ⟨⟨s1,s2,s3,s4,s5,s6,s7⟩,s8⟩:=y
      simp (disch:=first|omega|(simp only[lenT];omega)) only[dT hlt,dF h0,hc,wntR,sgR,evSt,↓eA,eB,evU,seval]
      refine (cz _ _).then ?_
      simp (disch:=first|omega|(simp only[lenT];omega)) only[wrap_i64,hk1,app_at1 hjl (by omega),evSt,↓eA,eB,evU,seval]
      refine ⟨j + 1 + 1,by omega,by omega,?_⟩
      simp only[htk]
      have him:=tx_imm (Ml.cityF p.1 w0.s.f :: ((l.take (j + 1)).map (fun w=>Ml.cityF p.1 w.s.t) ++ [Ml.cityF p.1 s5]))
      simp only[List.map_cons,List.map_append,List.map_map,List.map_nil] at him
      exact back_under (fgt_dk hn him) (by simp only[↓eA,eB,evU,seval];try rfl) (by simp [V.under,V.allUnder])
set_option maxHeartbeats 2000000 in
theorem rcities_A (p : Pls) (hp : p.1.length ≤ 1000) (l : List Wnt) (hl : l.length ≤ 8) (S : Store) : CallA Tryz.prog 11 [plV p,.sl 8 (l.map wntR)] S fun v S'=>v = .sl 1 ((citiesF p l).map txR) ∧ S' = S:=by
  refine CallA.withNeat Tryz.func11 c5019 fun hn=>?_
  refine CallA.fin Tryz.func11 c5019 (Nat.le_of_ble_eq_true rfl) fun σ hσ=>?_
  have cz:=fun c S=>Ml.rcity_A p c S (by omega)
  simp only[plV] at cz
  simp (disch:=first|omega|(simp only[lenT];omega)) only[a5019,plV,evSt,↓eA,eB,evU,seval]
  obtain ⟨w0,hw0⟩ : ∃ w0 : Wnt,∀ w r,l = w :: r → w0 = w:=by
    cases l with
    | nil=>exact ⟨⟨⟨[],0,0,[],[],0,0⟩,[]⟩,fun w r h=>by cases h⟩
    | cons w r=>exact ⟨w,fun w' r' h=>by cases h;rfl⟩
  refine loopF (ι:=Nat) (fun i=>match i with | 0=>[(1,.sl 8 (l.map wntR)),(2,.cptr [.sl 5 (p.1.map aptR),.sl 3 (p.2.map dstR)]),(5,.nilSl),(6,.int .i64 (0 : Nat))] | j + 1=>[(1,.sl 8 (l.map wntR)),(2,.cptr [.sl 5 (p.1.map aptR),.sl 3 (p.2.map dstR)]),(5,.msl S.length (j + 1) 0 (j + 2)),(6,.int .i64 ((j + 1 : Nat) : Int))])
    (fun i=>match i with | 0=>S | j + 1=>S ++ ⟨j + 1,some (.arr 9 1 (txR (Ml.cityF p.1 w0.s.f) :: ((l.take (j + 1)).map fun w=>txR (Ml.cityF p.1 w.s.t))))⟩ :: []) (fun i=>i ≤ l.length) (fun i=>l.length - i) (fun i hi=>by rw[hσ];cases i<;>simp) 0 (Nat.zero_le _) (.inl ⟨?_,rfl⟩) ?_
  · simp only[↓eA,eB,evU,seval]
    try rfl
  rintro i hi
  cases hc : l[i]? with
  | none =>
    have hge : l.length ≤ i:=List.getElem?_eq_none_iff.1 hc
    have hlt : ¬ ((i : Int) < l.length):=by omega
    have hil : i = l.length:=by omega
    cases i with
    | zero =>
      have hnil : l = []:=List.length_eq_zero_iff.1 hil.symm
      have hlt0 : ¬ ((0 : Int) < l.length):=by omega
      simp (disch:=first|omega|(simp only[lenT];omega)) only[dF hlt0,evSt,↓eA,eB,evU,seval]
      refine ⟨.sl 1 ((citiesF p l).map txR),S,hn.self,?_,Nat.le_refl _,rfl,rfl⟩
      rw[hnil]
      exact .nil
    | succ j =>
      simp (disch:=first|omega|(simp only[lenT];omega)) only[dF hlt,evSt,↓eA,eB,evU,seval]
      have hcs : citiesF p l = Ml.cityF p.1 w0.s.f :: (l.take (j + 1)).map fun w=>Ml.cityF p.1 w.s.t:=by
        cases l with
        | nil=>simp at hil
        | cons w r=>rw[hw0 w r rfl,List.take_of_length_le (by omega),citiesF]
      have him:=tx_imm (citiesF p l)
      have hrows : (citiesF p l).map txR = txR (Ml.cityF p.1 w0.s.f) :: ((l.take (j + 1)).map fun w=>txR (Ml.cityF p.1 w.s.t)):=by rw[hcs,List.map_cons,List.map_map];rfl
      have hlen:=cs_len p l (by intro h;rw[h] at hil;simp at hil)
      rw[hrows] at him
      refine ⟨.sl 1 ((citiesF p l).map txR),S,hn.fgt _,?_,Nat.le_refl _,rfl,rfl⟩
      rw[hrows]
      refine .sl (t:=9) (Nat.le_refl _) (by rw[ob_app0,ob_head]) (by simp;omega) ?_
      exact him
  | some y =>
    have hlt':=(List.getElem?_eq_some_iff.1 hc).1
    have hlt : ((i : Int) < l.length):=by omega
    have hk1 : (i : Int) + 1 = ((i + 1 : Nat) : Int):=by omega
    cases i with
    | zero =>
      have hy : w0 = y:=by
        cases l with
        | nil=>simp at hc
        | cons w r=>simp only[List.getElem?_cons_zero,Option.some.injEq] at hc;rw[hw0 w r rfl,hc]
      subst hy
      have htk : (l.take (0 + 1)).map (fun w=>txR (Ml.cityF p.1 w.s.t)) = [txR (Ml.cityF p.1 w0.s.t)]:=by rw[take_at hc];rfl
      obtain ⟨⟨s1,s2,s3,s4,s5,s6,s7⟩,s8⟩:=w0
      have hlt0 : ((0 : Int) < l.length):=by omega
      simp (disch:=first|omega|(simp only[lenT];omega)) only[dT hlt0,hc,wntR,sgR,evSt,↓eA,eB,evU,seval]
      refine (cz _ _).then ?_
      simp (disch:=first|omega|(simp only[lenT];omega)) only[roomA,wntR,sgR,hc,evSt,↓eA,eB,evU,seval]
      refine (cz _ _).then ?_
      simp (disch:=first|omega|(simp only[lenT];omega)) only[roomA,wrap_i64,hk1,evSt,↓eA,eB,evU,seval]
      refine ⟨0 + 1,by omega,by omega,?_⟩
      simp only[htk]
      exact .inl ⟨by simp only[↓eA,eB,evU,seval];try rfl,rfl⟩
    | succ j =>
      have htk : (l.take (j + 1 + 1)).map (fun w=>txR (Ml.cityF p.1 w.s.t)) = (l.take (j + 1)).map (fun w=>txR (Ml.cityF p.1 w.s.t)) ++ [txR (Ml.cityF p.1 y.s.t)]:=by rw[take_at hc];simp
      have hjl : ((l.take (j + 1)).map (fun w=>txR (Ml.cityF p.1 w.s.t))).length = j + 1:=by simp;omega
      have h0 : ¬ ((j + 1 : Nat) : Int) = 0:=by omega
      obtain ⟨⟨s1,s2,s3,s4,s5,s6,s7⟩,s8⟩:=y
      simp (disch:=first|omega|(simp only[lenT];omega)) only[dT hlt,dF h0,hc,wntR,sgR,evSt,↓eA,eB,evU,seval]
      refine (cz _ _).then ?_
      simp (disch:=first|omega|(simp only[lenT];omega)) only[wrap_i64,hk1,app_at0 hjl (by omega),evSt,↓eA,eB,evU,seval]
      refine ⟨j + 1 + 1,by omega,by omega,?_⟩
      simp only[htk]
      exact .inl ⟨by simp only[↓eA,eB,evU,seval];try rfl,rfl⟩
end Go.Proofs.YtanmnoipikdplaaGreat
