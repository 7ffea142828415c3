/- Segments of a flight on a day. The reference's segments. The flight of a number on a day; a segment of the timetable. A segment of the timetable. -/
import Derived.Test.YtiihkfjbllpiaaaGreatDoorWSch6
namespace Go.Proofs.YtiihkfjbllpiaaaGreatDoor
open Go Go.AL
set_option linter.unusedSectionVars false
variable [Go.AL.Mode] [Go.AL.LooseM]
set_option linter.unusedSimpArgs false
set_option linter.unusedVariables false
def segsI (L : List Dt) (i : Nat) : List Sg:=match L[i]? with
  | some a=>(L.drop i).map (segOf a)
  | none=>[]
def segsUp (L : List Dt) : Nat → List Sg
  | 0=>[]
  | i + 1=>segsUp L i ++ segsI L i
theorem segsI_cons (a : Dt) (L : List Dt) (i : Nat) : segsI (a :: L) (i + 1) = segsI L i:=by simp [segsI]
theorem segsUp_cons (a : Dt) (L : List Dt) : ∀ i,segsUp (a :: L) (i + 1) = (a :: L).map (segOf a) ++ segsUp L i
  | 0=>by simp [segsUp,segsI]
  | i + 1=>by rw[segsUp,segsUp_cons a L i,segsI_cons,segsUp,List.append_assoc]
theorem segsUp_all : ∀ L : List Dt,segsUp L L.length = segsL L
  | []=>rfl
  | a :: L=>by rw[List.length_cons,segsUp_cons,segsUp_all L,segsL]
theorem segsUp_len (L : List Dt) : ∀ i,i ≤ L.length → i ≤ (segsUp L i).length ∧ (segsUp L i).length ≤ i * L.length
  | 0,_=>by simp [segsUp]
  | i + 1,h=>by
    obtain ⟨h1,h2⟩:=segsUp_len L i (by omega)
    obtain ⟨a,ha⟩ : ∃ a,L[i]? = some a:=⟨L[i]'(by omega),List.getElem?_eq_getElem (by omega)⟩
    have : (segsI L i).length = L.length - i:=by simp [segsI,ha]
    rw[segsUp,List.length_append,this,Nat.succ_mul]
    omega
def segsD (p : Pls) (x : Fl) (day : Int) : List Sg × Int:=if hasF x.p day then (segsL (legsF p x day),0) else ([],12)
def sgV (n : Nat) : List (List V) → V
  | []=>.nilSl
  | _ :: rs=>.msl (n + 2) rs.length 0 (rs.length + 1)
def sgS (S : Store) : List (List V) → Store
  | []=>S
  | r :: rs=>S ++ [⟨0,none⟩,⟨0,none⟩,⟨rs.length,some (.arr 50 7 (r :: rs))⟩]
def boxD (a : Dt) : AL.Obj:=⟨0,some (.arr 45 8 [dtR a])⟩
def inS (S : Store) (a : Dt) (L : List Dt) : Nat → Store
  | 0=>S ++ [boxD a]
  | j + 1=>S ++ [boxD a,⟨0,none⟩,⟨j,some (.arr 50 7 (((L.take (j + 1)).map (segOf a)).map sgR))⟩]
def inV (n : Nat) : Nat → V
  | 0=>.nilSl
  | j + 1=>.msl (n + 2) j 0 (j + 1)
section
variable {S : Store} {n j : Nat} {a : Dt} {L : List Dt} {r : List V} {rs : List (List V)}
theorem sgV_nil : sgV n [] = .nilSl:=rfl
theorem sgV_cons : sgV n (r :: rs) = .msl (n + 2) rs.length 0 (rs.length + 1):=rfl
theorem sgS_nil : sgS S [] = S:=rfl
theorem sgS_cons : sgS S (r :: rs) = S ++ [⟨0,none⟩,⟨0,none⟩,⟨rs.length,some (.arr 50 7 (r :: rs))⟩]:=rfl
theorem inS_zero : inS S a L 0 = S ++ [boxD a]:=rfl
theorem inS_succ : inS S a L (j + 1) = S ++ [boxD a,⟨0,none⟩,⟨j,some (.arr 50 7 (((L.take (j + 1)).map (segOf a)).map sgR))⟩]:=rfl
theorem inV_zero : inV n 0 = .nilSl:=rfl
theorem inV_succ : inV n (j + 1) = .msl (n + 2) j 0 (j + 1):=rfl
end
theorem boxD_eq (a : Dt) : boxD a = ⟨0,some (.arr 45 8 [dtR a])⟩:=rfl
theorem segsUp_zero (L : List Dt) : segsUp L 0 = []:=rfl
theorem segs_A (p : Pls) (hp : POk p) (x : Fl) (day : Int) (hl : x.legs.length ≤ 300) (S : Store) : CallA Tryz.prog 27 [plV p,.agg (flR x),.int .i64 day] S fun r S'=>r = .tup [.sl 7 ((segsD p x day).1.map sgR),.int .i64 (segsD p x day).2] ∧ S' = S:=by
  refine CallA.withNeat Tryz.func27 c527 fun hn=>?_
  refine CallA.fin Tryz.func27 c527 (Nat.le_of_ble_eq_true rfl) fun σ hσ=>?_
  have hg:=fun S=>legs_A p hp x day (by omega) S
  simp only[plV,flR] at hg
  simp (disch:=first|omega|(simp only[lenT];omega)) only[a527,plV,flR,evSt,↓eA,eB,evU,seval]
  refine (hg S).then ?_
  by_cases hd : hasF x.p day = true
  · have hL : legsD p x day = (legsF p x day,0):=by unfold legsD;rw[if_pos hd]
    have hL2 : segsD p x day = (segsL (legsF p x day),0):=by unfold segsD;rw[if_pos hd]
    have hlen : (legsF p x day).length = x.legs.length:=by simp [legsF]
    have hcn : ∀ d ∈ legsF p x day,d.c = x.c ∧ d.n = x.n ∧ d.day = day:=fun d hd=>by
      obtain ⟨l,_,rfl⟩:=List.mem_map.1 hd
      exact ⟨rfl,rfl,rfl⟩
    rw[hL,hL2,← segsUp_all]
    generalize legsF p x day = L at hlen hcn
    simp (disch:=first|omega|(simp only[lenT];omega)) only[evSt,↓eA,eB,evU,seval]
    refine loopF (ι:=Nat) (fun i=>[(2,.int .i64 day),(4,.cptr (flR x)),(8,.sl 8 (L.map dtR)),(10,sgV S.length ((segsUp L i).map sgR)),(25,.sl 8 (L.map dtR)),(26,.int .i64 L.length),(27,.int .i64 (i : Nat))]) (fun i=>sgS S ((segsUp L i).map sgR)) (fun i=>i ≤ L.length) (fun i=>L.length - i) (fun i hi=>by rw[hσ];cases (segsUp L i).map sgR<;>simp [sgS]) 0 (Nat.zero_le _) (.inl ⟨?_,rfl⟩) ?_
    · simp only[flR,segsUp,List.map_nil,sgV_nil,↓eA,eB,evU,seval]
    intro i hi
    have hul:=segsUp_len L i hi
    have hub : (segsUp L i).length ≤ 90000:=Nat.le_trans hul.2 (Nat.mul_le_mul (by omega : i ≤ 300) (by omega : L.length ≤ 300))
    cases hc : L[i]? with
    | none =>
      have hge : L.length ≤ i:=List.getElem?_eq_none_iff.1 hc
      have hlt : ¬ ((i : Int) < L.length):=by omega
      have hil : i = L.length:=by omega
      subst hil
      have himm:=sgR_imm (segsUp L L.length)
      generalize (segsUp L L.length).map sgR = rows at himm
      cases rows with
      | nil =>
        simp (disch:=first|omega|(simp only[lenT];omega)) only[sgV_nil,sgV_cons,sgS_nil,sgS_cons,hlt,decide_false,evSt,↓eA,eB,evU,seval]
        exact ⟨_,S,hn.self,.tup2 .nil (.imm rfl),Nat.le_refl _,rfl,rfl⟩
      | cons r rs =>
        simp (disch:=first|omega|(simp only[lenT];omega)) only[sgV_nil,sgV_cons,sgS_nil,sgS_cons,hlt,decide_false,evSt,↓eA,eB,evU,seval]
        exact ⟨_,S,hn.fgt _,.tup2 (.sl (t:=50) (rows:=r :: rs) (by omega) (by rw[ob_app,ob_cons,ob_cons,ob_head]) rfl himm) (.imm rfl),Nat.le_refl _,rfl,rfl⟩
    | some a =>
      have hlt':=(List.getElem?_eq_some_iff.1 hc).1
      have hlt : (i : Int) < L.length:=by omega
      have hst : segsUp L (i + 1) = segsUp L i ++ (L.drop i).map (segOf a):=by rw[segsUp,segsI,hc]
      obtain ⟨q1,q2,q3⟩:=hcn a (List.mem_of_getElem? hc)
      have hq : ∀ b,sgR (segOf a b) = [.str x.c,.int .i64 x.n,.int .i64 day,.str a.f,.str b.t,.int .i64 a.dep,.int .i64 b.arr]:=fun b=>by simp [sgR,segOf,q1,q2,q3]
      have hqi : ∀ b : Dt,∀ r ∈ [[V.str x.c,.int .i64 x.n,.int .i64 day,.str a.f,.str b.t,.int .i64 a.dep,.int .i64 b.arr]],r.length = 7 ∧ V.allImm r = true:=fun b r hr=>by
        rw[List.mem_singleton] at hr
        subst hr
        exact ⟨rfl,rfl⟩
      cases i with
      | zero =>
        rw[List.drop_zero] at hst
        have hlt0 : (0 : Int) < L.length:=by omega
        simp (disch:=first|omega|(simp only[lenT];omega)) only[segsUp_zero,List.map_nil,sgV_nil,sgS_nil,hc,hlt0,dtR,flR,decide_true,Int.le_refl,if_true,List.take_length,List.drop_zero,evSt,↓eA,eB,evU,seval]
        refine loopF (ι:=Nat) (fun j=>[(2,.int .i64 day),(4,.cptr (flR x)),(8,.sl 8 (L.map dtR)),(10,inV S.length j),(12,.ptr S.length 0 0 0),(25,.sl 8 (L.map dtR)),(26,.int .i64 L.length),(27,.int .i64 0),(34,.sl 8 (L.map dtR)),(35,.int .i64 L.length),(36,.int .i64 (j : Nat))]) (inS S a L) (fun j=>j ≤ L.length) (fun j=>L.length - j) (fun j hj=>by rw[hσ];cases j<;>simp [inS]) 0 (Nat.zero_le _) (.inl ⟨?_,rfl⟩) ?_
        · simp only[flR,inV_zero,↓eA,eB,evU,seval]
        intro j hj
        cases hcj : L[j]? with
        | none =>
          have hge : L.length ≤ j:=List.getElem?_eq_none_iff.1 hcj
          have hltj : ¬ ((j : Int) < L.length):=by omega
          cases j with
          | zero=>omega
          | succ j =>
            simp (disch:=first|omega|(simp only[lenT];omega)) only[inV_succ,inS_succ,boxD_eq,flR,hltj,wrap_i64,decide_false,evSt,↓eA,eB,evU,seval]
            have hT : ((L.take (j + 1)).map (segOf a)).map sgR = (segsUp L (0 + 1)).map sgR:=by rw[hst,List.take_of_length_le hge];rfl
            have himm:=sgR_imm (segsUp L (0 + 1))
            have hsl : (segsUp L (0 + 1)).length = L.length:=by rw[hst];simp [segsUp]
            obtain ⟨r,rs,hrr⟩ : ∃ r rs,(segsUp L (0 + 1)).map sgR = r :: rs:=by
              cases h : (segsUp L (0 + 1)).map sgR with
              | nil =>
                have:=congrArg List.length h
                simp only[List.length_map,hsl,List.length_nil] at this
                omega
              | cons r rs=>exact ⟨r,rs,rfl⟩
            have hjr : j = rs.length:=by
              have:=congrArg List.length hrr
              simp only[List.length_map,hsl,List.length_cons] at this
              omega
            rw[hT,hrr,hjr]
            rw[hrr] at himm
            refine ⟨0 + 1,by omega,by omega,back_under ?_ (by rw[hrr];simp only[sgV_cons,flR,↓eA,eB,evU,seval]) (by rw[hrr];simp [V.under,sgV_cons,sgS_cons])⟩
            rw[hrr,sgS_cons]
            exact hn.fgtL (L:=[_,_,_]) (L1:=[_,_,_]) ⟨rfl,trivial,rfl,trivial,rfl,⟨_,rfl,.imm himm⟩,trivial⟩
        | some b =>
          have hltj':=(List.getElem?_eq_some_iff.1 hcj).1
          have hltj : (j : Int) < L.length:=by omega
          cases j with
          | zero =>
            have hT : ((L.take (0 + 1)).map (segOf a)).map sgR = [sgR (segOf a b)]:=by rw[take_at hcj];rfl
            simp (disch:=first|omega|(simp only[lenT];omega)) only[inV_zero,inS_zero,boxD_eq,flR,dtR,hcj,hlt0,wrap_i64,decide_true,evSt,↓eA,eB,evU,seval]
            refine ⟨by simp [roomA],0 + 1,by omega,by omega,back_under ?_ (by simp only[inV_succ,flR,↓eA,eB,evU,seval]) (by simp [V.under,inV_succ,inS_succ])⟩
            rw[inS_succ,hT,boxD_eq,hq b]
            exact hn.fgtL (L:=[_,_,_]) (L1:=[_,_,_]) ⟨rfl,⟨_,rfl,.imm (dtR_imm [a])⟩,rfl,trivial,rfl,⟨_,rfl,.imm (hqi b)⟩,trivial⟩
          | succ j =>
            have hT : ((L.take (j + 1 + 1)).map (segOf a)).map sgR = ((L.take (j + 1)).map (segOf a)).map sgR ++ [sgR (segOf a b)]:=by rw[take_at hcj];simp
            have himm:=sgR_imm ((L.take (j + 1 + 1)).map (segOf a))
            simp (disch:=first|omega|(simp only[lenT];omega)) only[inV_succ,inS_succ,boxD_eq,flR,dtR,hcj,hltj,wrap_i64,decide_true,evSt,↓eA,eB,evU,seval]
            have hj1 : ((j + 1 : Nat) : Int) + 1 = ((j + 1 + 1 : Nat) : Int):=by omega
            refine ⟨by simp;omega,by simp [roomA];omega,j + 1 + 1,by omega,by omega,back_under ?_ (by simp only[inV_succ,flR,hj1,↓eA,eB,evU,seval]) (by simp [V.under,inV_succ,inS_succ])⟩
            rw[inS_succ,hT,boxD_eq,hq b]
            rw[hT,hq b] at himm
            exact hn.fgtL (L:=[_,_,_,_]) (L1:=[_,_,_]) ⟨rfl,⟨_,rfl,.imm (dtR_imm [a])⟩,rfl,trivial,rfl,⟨_,rfl,.imm himm⟩,trivial⟩
      | succ i =>
        obtain ⟨r,rs,hrr⟩ : ∃ r rs,(segsUp L (i + 1)).map sgR = r :: rs:=by
          cases h : (segsUp L (i + 1)).map sgR with
          | nil =>
            have:=congrArg List.length h
            simp at this
            rw[this] at hul
            simp at hul
          | cons r rs=>exact ⟨r,rs,rfl⟩
        have hle : ((i + 1 : Nat) : Int) ≤ L.length:=by omega
        have htk : (L.drop (i + 1)).take (L.length - (i + 1)) = L.drop (i + 1):=List.take_of_length_le (by simp)
        simp (disch:=first|omega|(simp only[lenT];omega)) only[hrr,sgV_cons,sgS_cons,hc,hlt,hle,htk,dtR,flR,decide_true,Int.le_refl,if_true,List.length_drop,evSt,↓eA,eB,evU,seval]
        generalize hD : L.drop (i + 1) = D at hst
        have hDl : L.length - (i + 1) = D.length:=by rw[← hD,List.length_drop]
        have hDb : rs.length + 1 + D.length ≤ 180000:=by
          have:=congrArg List.length hrr
          simp only[List.length_map,List.length_cons] at this
          omega
        simp only[hDl]
        refine loopF (ι:=Nat) (fun j=>[(2,.int .i64 day),(4,.cptr (flR x)),(8,.sl 8 (L.map dtR)),(10,.msl (S.length + 2) (rs.length + j) 0 (rs.length + 1 + j)),(12,.ptr (S.length + 3) 0 0 0),(25,.sl 8 (L.map dtR)),(26,.int .i64 L.length),(27,.int .i64 (i + 1 : Nat)),(34,.sl 8 (D.map dtR)),(35,.int .i64 D.length),(36,.int .i64 (j : Nat))])
          (fun j=>S ++ [⟨0,none⟩,⟨0,none⟩,⟨rs.length + j,some (.arr 50 7 ((r :: rs) ++ ((D.take j).map (segOf a)).map sgR))⟩,boxD a]) (fun j=>j ≤ D.length) (fun j=>D.length - j) (fun j hj=>by rw[hσ];simp) 0 (Nat.zero_le _) (.inl ⟨?_,by simp [boxD,dtR]⟩) ?_
        · simp only[flR,Nat.add_zero,↓eA,eB,evU,seval]
        intro j hj
        cases hcj : D[j]? with
        | none =>
          have hge : D.length ≤ j:=List.getElem?_eq_none_iff.1 hcj
          have hltj : ¬ ((j : Int) < D.length):=by omega
          simp (disch:=first|omega|(simp only[lenT];omega)) only[boxD_eq,flR,hltj,wrap_i64,decide_false,evSt,↓eA,eB,evU,seval]
          have hjD : j = D.length:=by omega
          subst hjD
          have hR : (segsUp L (i + 1 + 1)).map sgR = r :: (rs ++ (D.map (segOf a)).map sgR):=by rw[hst,List.map_append,hrr];rfl
          have hi2 : ((i + 1 : Nat) : Int) + 1 = ((i + 1 + 1 : Nat) : Int):=by omega
          have hv : rs.length + D.length = (rs ++ (D.map (segOf a)).map sgR).length:=by simp
          have hv2 : rs.length + 1 + D.length = (rs ++ (D.map (segOf a)).map sgR).length + 1:=by simp;omega
          have himm : ∀ q ∈ r :: (rs ++ (D.map (segOf a)).map sgR),q.length = 7 ∧ V.allImm q = true:=by rw[← hR];exact sgR_imm _
          rw[List.take_length,hv,hv2,hi2]
          refine ⟨i + 1 + 1,by omega,by omega,back_under ?_ (by rw[hR];simp only[sgV_cons,flR,↓eA,eB,evU,seval]) (by rw[hR];simp [V.under,sgV_cons,sgS_cons])⟩
          rw[hR,sgS_cons]
          exact hn.fgtL (L:=[_,_,_,_]) (L1:=[_,_,_]) ⟨rfl,trivial,rfl,trivial,rfl,⟨_,rfl,.imm himm⟩,trivial⟩
        | some b =>
          have hltj':=(List.getElem?_eq_some_iff.1 hcj).1
          have hltj : (j : Int) < D.length:=by omega
          have hT : ((D.take (j + 1)).map (segOf a)).map sgR = ((D.take j).map (segOf a)).map sgR ++ [sgR (segOf a b)]:=by rw[take_at hcj];simp
          have hN : r :: (rs ++ ((D.take j).map (segOf a)).map sgR ++ [[V.str x.c,.int .i64 x.n,.int .i64 day,.str a.f,.str b.t,.int .i64 a.dep,.int .i64 b.arr]]) = (r :: rs) ++ ((D.take (j + 1)).map (segOf a)).map sgR:=by rw[hT,hq b];simp
          have himm : ∀ q ∈ (r :: rs) ++ ((D.take (j + 1)).map (segOf a)).map sgR,q.length = 7 ∧ V.allImm q = true:=fun q hm=>by
            rcases List.mem_append.1 hm with h | h
            · rw[← hrr] at h;exact sgR_imm _ q h
            · exact sgR_imm _ q h
          have hj1 : (j : Int) + 1 = ((j + 1 : Nat) : Int):=by omega
          simp (disch:=first|omega|(simp only[lenT];omega)) only[boxD_eq,flR,dtR,hcj,hltj,wrap_i64,decide_true,List.length_cons,List.length_append,evSt,↓eA,eB,evU,seval]
          refine ⟨by simp;omega,by simp [roomA];omega,j + 1,by omega,by omega,back_under ?_ (by simp only[flR,hj1,← Nat.add_assoc,↓eA,eB,evU,seval]) (by simp [V.under])⟩
          rw[hN]
          exact hn.fgtL (L:=[_,_,_,_,_]) (L1:=[_,_,_,_]) ⟨rfl,trivial,rfl,trivial,rfl,⟨_,rfl,.imm himm⟩,rfl,⟨_,rfl,.imm (dtR_imm [a])⟩,trivial⟩
  · have hL : legsD p x day = ([],12):=by unfold legsD;rw[if_neg hd]
    have hL2 : segsD p x day = ([],12):=by unfold segsD;rw[if_neg hd]
    rw[hL,hL2]
    simp (disch:=first|omega|(simp only[lenT];omega)) only[evSt,↓eA,eB,evU,seval]
    exact ⟨_,S,hn.self,.tup2 .nil (.imm rfl),Nat.le_refl _,rfl,rfl⟩
theorem segsUp_succ {L : List Dt} {i : Nat} {a : Dt} (hc : L[i]? = some a) : segsUp L (i + 1) = segsUp L i ++ (L.drop i).map (segOf a):=by rw[segsUp,segsI,hc]
theorem rsegs_A (p : Pls) (hp : POk p) (x : Fl) (day : Int) (hl : x.legs.length ≤ 300) (S : Store) : CallA Tryz.prog 67 [plV p,.agg (flR x),.int .i64 day] S fun r S'=>r = .tup [.sl 7 ((segsD p x day).1.map sgR),.int .i64 (segsD p x day).2] ∧ S' = S:=by
  refine CallA.back Tryz.func67 c567 (Nat.le_of_ble_eq_true rfl) (R:=fun r=>r = .tup [.sl 7 ((segsD p x day).1.map sgR),.int .i64 (segsD p x day).2]) fun σ hσ hn=>?_
  have hg:=fun S=>rlegs_A p hp x day (by omega) S
  simp only[plV,flR] at hg
  have hR : ∃ L : List Dt,∃ e : Int,legsD p x day = (L,e) ∧ segsD p x day = (segsL L,e) ∧ L.length ≤ 300:=by
    unfold legsD segsD
    split
    · exact ⟨_,_,rfl,rfl,by simpa [legsF] using hl⟩
    · exact ⟨_,_,rfl,rfl,Nat.zero_le _⟩
  obtain ⟨L,e,h1,h2,hlen⟩:=hR
  rw[h1] at hg
  rw[h2,← segsUp_all]
  simp (disch:=first|omega|(simp only[lenT];omega)) only[a567,plV,flR,evSt,↓eA,eB,evU,seval]
  refine (hg S).then ?_
  simp (disch:=first|omega|(simp only[lenT];omega)) only[evSt,↓eA,eB,evU,seval]
  refine loopA (ι:=Nat) (fun i=>[(8,.sl 8 (L.map dtR)),(9,.int .i64 e),(10,accV S.length ((segsUp L i).map sgR)),(11,.int .i64 (i : Nat))]) (fun i=>S ++ accT 50 7 ((segsUp L i).map sgR)) (fun i=>i ≤ L.length) (fun i=>L.length - i) 0 (Nat.zero_le _) ?_ (by simp [segsUp,accT]) ?_
  · simp only[segsUp_zero,List.map_nil,accV_nil,↓eA,eB,evU,seval]
  intro i hi
  have hul:=segsUp_len L i hi
  have hub : (segsUp L i).length ≤ 90000:=Nat.le_trans hul.2 (Nat.mul_le_mul (by omega : i ≤ 300) hlen)
  cases hc : L[i]? with
  | none =>
    have hge : L.length ≤ i:=List.getElem?_eq_none_iff.1 hc
    have hlt : ¬ ((i : Int) < L.length):=by omega
    have hil : i = L.length:=by omega
    subst hil
    simp (disch:=first|omega|(simp only[lenT];omega)) only[hlt,decide_false,evSt,↓eA,eB,evU,seval]
    exact ⟨_,⟨_,rfl⟩,.tup2 (frz_acc (sgR_imm _)) (.imm rfl),rfl⟩
  | some a =>
    have hlt':=(List.getElem?_eq_some_iff.1 hc).1
    have hlt : (i : Int) < L.length:=by omega
    have hst:=segsUp_succ hc
    simp (disch:=first|omega|(simp only[lenT];omega)) only[hlt,decide_true,evSt,↓eA,eB,evU,seval]
    refine loopA (ι:=Nat) (fun k=>[(8,.sl 8 (L.map dtR)),(9,.int .i64 e),(10,accV S.length ((segsUp L i ++ ((L.drop i).take (k - i)).map (segOf a)).map sgR)),(11,.int .i64 (i : Nat)),(12,.int .i64 (k : Nat))]) (fun k=>S ++ accT 50 7 ((segsUp L i ++ ((L.drop i).take (k - i)).map (segOf a)).map sgR)) (fun k=>i ≤ k ∧ k ≤ L.length) (fun k=>L.length - k) i ⟨Nat.le_refl _,hi⟩ ?_ (by simp) ?_
    · simp only[Nat.sub_self,List.map_nil,List.append_nil,↓eA,eB,evU,seval]
    rintro k ⟨hik,hk⟩
    cases hck : L[k]? with
    | none =>
      have hge : L.length ≤ k:=List.getElem?_eq_none_iff.1 hck
      have hltk : ¬ ((k : Int) < L.length):=by omega
      have hi1 : (i : Int) + 1 = ((i + 1 : Nat) : Int):=by omega
      have ht : (L.drop i).take (k - i) = L.drop i:=List.take_of_length_le (by simp;omega)
      simp (disch:=first|omega|(simp only[lenT];omega)) only[hltk,hi1,ht,wrap_i64,decide_false,evSt,↓eA,eB,evU,seval]
      exact ⟨i + 1,by omega,by omega,by rw[hst];exact ⟨rfl,rfl⟩,by rw[hst]⟩
    | some b =>
      have hltk':=(List.getElem?_eq_some_iff.1 hck).1
      have hltk : (k : Int) < L.length:=by omega
      have hk1 : (k : Int) + 1 = ((k + 1 : Nat) : Int):=by omega
      have hd : (L.drop i)[k - i]? = some b:=by rw[List.getElem?_drop,show i + (k - i) = k by omega];exact hck
      have hT : (segsUp L i ++ ((L.drop i).take (k + 1 - i)).map (segOf a)).map sgR = (segsUp L i ++ ((L.drop i).take (k - i)).map (segOf a)).map sgR ++ [sgR (segOf a b)]:=by
        rw[show k + 1 - i = (k - i) + 1 by omega,take_at hd]
        simp
      have hb : ((segsUp L i ++ ((L.drop i).take (k - i)).map (segOf a)).map sgR).length < 1000000:=by simp;omega
      simp (disch:=first|omega|(simp only[lenT];omega)) only[hltk,wrap_i64,decide_true,evSt,↓eA,eB,evU,seval]
      refine (rseg_A L i k a b hc hck (by omega) _).then ?_
      simp (disch:=first|omega|(simp only[lenT];omega)) only[wrap_i64,hk1,sgR,app_acc rfl hb,evSt,↓eA,eB,evU,seval]
      exact ⟨k + 1,⟨by omega,by omega⟩,by omega,by rw[hT];exact ⟨rfl,rfl⟩,by rw[hT];rfl⟩
theorem find_hit {α : Type} {l : List α} {q : α → Bool} {k : Nat} {a : α} (h : l.find? q = (l.drop k).find? q) (ha : l[k]? = some a) (hq : q a = true) : l.find? q = some a:=by
  have e : l.drop k = a :: l.drop (k + 1):=by
    obtain ⟨hlt,rfl⟩:=List.getElem?_eq_some_iff.1 ha
    exact List.drop_eq_getElem_cons hlt
  rw[h,e,List.find?_cons_of_pos hq]
def noFl : List V:=[.str [],.int .i64 0,.int .i64 0,.int .i64 0,.int .i64 0,.nilSl]
def onR (o : Option Fl) : V:=match o with
  | some x=>.tup [.agg (flR x),.bool true]
  | none=>.tup [.agg noFl,.bool false]
theorem firstF_A (l : List Fl) (q : Fl → Bool) (g : FuncId) (caps : List V) (hl : l.length ≤ 1000000) (hcu : ∀ n,V.allUnder n caps = true) (hq : ∀ x S,CallA Tryz.prog g (.agg (flR x) :: caps) S fun r S'=>r = .bool (q x) ∧ S' = S) (S : Store) :
    CallA Tryz.prog 47 [.sl 6 (l.map flR),.func g [] caps] S fun r S'=>r = onR (l.find? q) ∧ S' = S:=by
  refine CallA.withNeat Tryz.func47 c547 fun hn=>?_
  refine CallA.fin Tryz.func47 c547 (Nat.le_of_ble_eq_true rfl) fun σ hσ=>?_
  simp only[flR] at hq
  simp (disch:=first|omega|(simp only[lenT];omega)) only[a547,evSt,↓eA,eB,evU,seval]
  refine loopF (ι:=Nat) (fun k=>[(1,.func g [] caps),(4,.ptr S.length 0 0 0),(9,.sl 6 (l.map flR)),(10,.int .i64 l.length),(11,.int .i64 (k : Nat))]) (fun _=>S ++ [⟨0,some (.arr 41 6 [noFl])⟩]) (fun k=>k ≤ l.length ∧ l.find? q = (l.drop k).find? q) (fun k=>l.length - k) (fun i hi=>by rw[hσ];simp) 0 ⟨Nat.zero_le _,rfl⟩ (.inl ⟨?_,rfl⟩) ?_
  · simp only[↓eA,eB,evU,seval]
  · rintro k ⟨hk,hinv⟩
    cases hc : l[k]? with
    | none =>
      have hlt : ¬ ((k : Int) < l.length):=by rw[List.getElem?_eq_none_iff] at hc;omega
      have hf:=find_end hinv hc
      simp (disch:=first|omega|(simp only[lenT];omega)) only[hf,onR,noFl,hlt,decide_false,evSt,↓eA,eB,evU,seval]
      exact ⟨_,S,hn.fgt _,.imm rfl,Nat.le_refl _,rfl,rfl⟩
    | some a =>
      have hlt':=(List.getElem?_eq_some_iff.1 hc).1
      have hlt : (k : Int) < l.length:=by omega
      simp (disch:=first|omega|(simp only[lenT];omega)) only[flR,noFl,hc,hlt,decide_true,evSt,↓eA,eB,evU,seval]
      refine (hq a _).then ?_
      cases hqa : q a with
      | true =>
        have hf:=find_hit hinv hc hqa
        simp (disch:=first|omega|(simp only[lenT];omega)) only[hf,onR,flR,noFl,evSt,↓eA,eB,evU,seval]
        exact ⟨_,S,hn.fgt _,.imm rfl,Nat.le_refl _,rfl,rfl⟩
      | false =>
        have hk1 : (k : Int) + 1 = ((k + 1 : Nat) : Int):=by omega
        simp (disch:=first|omega|(simp only[lenT];omega)) only[noFl,wrap_i64,hk1,evSt,↓eA,eB,evU,seval]
        refine ⟨k + 1,⟨by omega,find_next hinv hc hqa⟩,by omega,back_under ?_ (by simp only[↓eA,eB,evU,seval]) (by simp [V.under,V.allUnder,hcu])⟩
        exact hn.fgtL (L:=[_,_]) (L1:=[_]) ⟨rfl,⟨_,rfl,.imm (fun r hr=>by simp only[noFl,List.mem_singleton] at hr;subst hr;exact ⟨rfl,rfl⟩)⟩,trivial⟩
def noSg : List V:=[.str [],.int .i64 0,.int .i64 0,.str [],.str [],.int .i64 0,.int .i64 0]
def sgO (o : Option Sg) : V:=match o with
  | some x=>.tup [.agg (sgR x),.bool true]
  | none=>.tup [.agg noSg,.bool false]
theorem firstG_A (l : List Sg) (q : Sg → Bool) (g : FuncId) (caps : List V) (hl : l.length ≤ 1000000) (hcu : ∀ n,V.allUnder n caps = true) (hq : ∀ x S,CallA Tryz.prog g (.agg (sgR x) :: caps) S fun r S'=>r = .bool (q x) ∧ S' = S) (S : Store) :
    CallA Tryz.prog 65 [.sl 7 (l.map sgR),.func g [] caps] S fun r S'=>r = sgO (l.find? q) ∧ S' = S:=by
  refine CallA.withNeat Tryz.func65 c565 fun hn=>?_
  refine CallA.fin Tryz.func65 c565 (Nat.le_of_ble_eq_true rfl) fun σ hσ=>?_
  simp only[sgR] at hq
  simp (disch:=first|omega|(simp only[lenT];omega)) only[a565,evSt,↓eA,eB,evU,seval]
  refine loopF (ι:=Nat) (fun k=>[(1,.func g [] caps),(4,.ptr S.length 0 0 0),(9,.sl 7 (l.map sgR)),(10,.int .i64 l.length),(11,.int .i64 (k : Nat))]) (fun _=>S ++ [⟨0,some (.arr 50 7 [noSg])⟩]) (fun k=>k ≤ l.length ∧ l.find? q = (l.drop k).find? q) (fun k=>l.length - k) (fun i hi=>by rw[hσ];simp) 0 ⟨Nat.zero_le _,rfl⟩ (.inl ⟨?_,rfl⟩) ?_
  · simp only[↓eA,eB,evU,seval]
  · rintro k ⟨hk,hinv⟩
    cases hc : l[k]? with
    | none =>
      have hlt : ¬ ((k : Int) < l.length):=by rw[List.getElem?_eq_none_iff] at hc;omega
      have hf:=find_end hinv hc
      simp (disch:=first|omega|(simp only[lenT];omega)) only[hf,sgO,noSg,hlt,decide_false,evSt,↓eA,eB,evU,seval]
      exact ⟨_,S,hn.fgt _,.imm rfl,Nat.le_refl _,rfl,rfl⟩
    | some a =>
      have hlt':=(List.getElem?_eq_some_iff.1 hc).1
      have hlt : (k : Int) < l.length:=by omega
      simp (disch:=first|omega|(simp only[lenT];omega)) only[sgR,noSg,hc,hlt,decide_true,evSt,↓eA,eB,evU,seval]
      refine (hq a _).then ?_
      cases hqa : q a with
      | true =>
        have hf:=find_hit hinv hc hqa
        simp (disch:=first|omega|(simp only[lenT];omega)) only[hf,sgO,sgR,noSg,evSt,↓eA,eB,evU,seval]
        exact ⟨_,S,hn.fgt _,.imm rfl,Nat.le_refl _,rfl,rfl⟩
      | false =>
        have hk1 : (k : Int) + 1 = ((k + 1 : Nat) : Int):=by omega
        simp (disch:=first|omega|(simp only[lenT];omega)) only[noSg,wrap_i64,hk1,evSt,↓eA,eB,evU,seval]
        refine ⟨k + 1,⟨by omega,find_next hinv hc hqa⟩,by omega,back_under ?_ (by simp only[↓eA,eB,evU,seval]) (by simp [V.under,V.allUnder,hcu])⟩
        exact hn.fgtL (L:=[_,_]) (L1:=[_]) ⟨rfl,⟨_,rfl,.imm (fun r hr=>by simp only[noSg,List.mem_singleton] at hr;subst hr;exact ⟨rfl,rfl⟩)⟩,trivial⟩
def onq (c : Txt) (n day : Int) (x : Fl) : Bool:=decide (x.c = c) && (decide (x.n = n) && hasF x.p day)
theorem onL_eq (l : List Fl) (c : Txt) (n day : Int) : onL l c n day = l.find? (onq c n day):=rfl
theorem on1_A (x : Fl) (c : Txt) (n day : Int) (S : Store) : CallA Tryz.prog 63 [.agg (flR x),.cptr [.str c],.cptr [.int .i64 n],.cptr [.int .i64 day]] S fun r S'=>r = .bool (onq c n day x) ∧ S' = S:=by
  refine CallA.keep Tryz.func63 c563 (Nat.le_of_ble_eq_true rfl) fun σ hσ=>?_
  have hh:=fun S=>has_A x.p day S
  simp only[pdR] at hh
  by_cases h1 : x.c = c
  · by_cases h2 : x.n = n
    · simp (disch:=first|omega|(simp only[lenT];omega)) only[a563,flR,dT h1,dT h2,evSt,↓eA,eB,evU,seval]
      refine (hh S).then ?_
      simp (disch:=first|omega|(simp only[lenT];omega)) only[onq,dT h1,dT h2,Bool.true_and,evSt,↓eA,eB,evU,seval]
    · simp (disch:=first|omega|(simp only[lenT];omega)) only[a563,flR,onq,dT h1,dF h2,Bool.true_and,Bool.false_and,evSt,↓eA,eB,evU,seval]
  · simp (disch:=first|omega|(simp only[lenT];omega)) only[a563,flR,onq,dF h1,Bool.false_and,evSt,↓eA,eB,evU,seval]
theorem onC_A (l : List Fl) (c : Txt) (n day : Int) (hl : l.length ≤ 1000000) (S : Store) : CallA Tryz.prog 19 [.sl 6 (l.map flR),.str c,.int .i64 n,.int .i64 day] S fun r S'=>r = onR (onL l c n day) ∧ S' = S:=by
  refine CallA.back Tryz.func19 c519 (Nat.le_of_ble_eq_true rfl) (R:=fun r=>r = onR (onL l c n day)) fun σ hσ hn=>?_
  simp (disch:=first|omega|(simp only[lenT];omega)) only[a519,evSt,↓eA,eB,evU,seval]
  refine (firstF_A l (onq c n day) 63 [.cptr [.str c],.cptr [.int .i64 n],.cptr [.int .i64 day]] hl (fun n=>rfl) (fun x S=>on1_A x c n day S) _).then ?_
  rw[onL_eq]
  cases l.find? (onq c n day) with
  | none =>
    simp (disch:=first|omega|(simp only[lenT];omega)) only[onR,noFl,evSt,↓eA,eB,evU,seval]
    exact ⟨_,⟨_,rfl⟩,.imm rfl,rfl⟩
  | some x =>
    simp (disch:=first|omega|(simp only[lenT];omega)) only[onR,flR,evSt,↓eA,eB,evU,seval]
    exact ⟨_,⟨_,rfl⟩,.imm rfl,rfl⟩
theorem ron_A (l : List Fl) (c : Txt) (n day : Int) (hl : l.length ≤ 1000000) (S : Store) : CallA Tryz.prog 20 [.sl 6 (l.map flR),.str c,.int .i64 n,.int .i64 day] S fun r S'=>r = onR (onL l c n day) ∧ S' = S:=by
  refine CallA.back Tryz.func20 c520 (Nat.le_of_ble_eq_true rfl) (R:=fun r=>r = onR (onL l c n day)) fun σ hσ hn=>?_
  simp (disch:=first|omega|(simp only[lenT];omega)) only[a520,evSt,↓eA,eB,evU,seval]
  refine loopA (ι:=Nat) (fun k=>[(0,.sl 6 (l.map flR)),(1,.str c),(2,.int .i64 n),(3,.int .i64 day),(8,.ptr S.length 0 0 0),(10,.int .i64 (k : Nat))]) (fun _=>S ++ [⟨0,some (.arr 41 6 [noFl])⟩]) (fun k=>k ≤ l.length ∧ l.find? (onq c n day) = (l.drop k).find? (onq c n day)) (fun k=>l.length - k) 0 ⟨Nat.zero_le _,rfl⟩ ?_ rfl ?_
  · simp only[↓eA,eB,evU,seval]
  rintro k ⟨hk,hinv⟩
  cases hc : l[k]? with
  | none =>
    have hlt : ¬ ((k : Int) < l.length):=by rw[List.getElem?_eq_none_iff] at hc;omega
    have hf:=find_end hinv hc
    simp (disch:=first|omega|(simp only[lenT];omega)) only[onL_eq,hf,onR,noFl,hlt,decide_false,evSt,↓eA,eB,evU,seval]
    exact ⟨_,⟨_,rfl⟩,.imm rfl,rfl⟩
  | some x =>
    have hlt':=(List.getElem?_eq_some_iff.1 hc).1
    have hlt : (k : Int) < l.length:=by omega
    have hk1 : (k : Int) + 1 = ((k + 1 : Nat) : Int):=by omega
    have hh:=fun S=>rhas_A x.p day S
    simp only[pdR] at hh
    have miss : onq c n day x = false → ∃ i,(i ≤ l.length ∧ l.find? (onq c n day) = (l.drop i).find? (onq c n day)) ∧ l.length - i < l.length - k ∧ ((k + 1 : Nat) : Int) = (i : Nat):=fun h=>⟨k + 1,⟨by omega,find_next hinv hc h⟩,by omega,rfl⟩
    by_cases h1 : x.c = c
    · by_cases h2 : x.n = n
      · simp (disch:=first|omega|(simp only[lenT];omega)) only[flR,noFl,hc,hlt,dT h1,dT h2,decide_true,evSt,↓eA,eB,evU,seval]
        refine (hh _).then ?_
        cases h3 : hasF x.p day with
        | true =>
          have hf:=find_hit hinv hc (by simp [onq,h1,h2,h3])
          simp (disch:=first|omega|(simp only[lenT];omega)) only[onL_eq,hf,onR,flR,hc,evSt,↓eA,eB,evU,seval]
          exact ⟨_,⟨_,rfl⟩,.imm rfl,rfl⟩
        | false =>
          simp (disch:=first|omega|(simp only[lenT];omega)) only[noFl,wrap_i64,hk1,evSt,↓eA,eB,evU,seval]
          obtain ⟨i,a,b,c⟩:=miss (by simp [onq,h3])
          exact ⟨i,a,b,c⟩
      · simp (disch:=first|omega|(simp only[lenT];omega)) only[flR,noFl,hc,hlt,dT h1,dF h2,wrap_i64,hk1,decide_true,evSt,↓eA,eB,evU,seval]
        obtain ⟨i,a,b,c⟩:=miss (by simp [onq,h2])
        exact ⟨i,a,b,c⟩
    · simp (disch:=first|omega|(simp only[lenT];omega)) only[flR,noFl,hc,hlt,dF h1,wrap_i64,hk1,decide_true,evSt,↓eA,eB,evU,seval]
      obtain ⟨i,a,b,c⟩:=miss (by simp [onq,h1])
      exact ⟨i,a,b,c⟩
def sgq (f t : Txt) (s : Sg) : Bool:=decide (s.f = f) && decide (s.t = t)
theorem seg1_A (s : Sg) (f t : Txt) (S : Store) : CallA Tryz.prog 66 [.agg (sgR s),.cptr [.str f],.cptr [.str t]] S fun r S'=>r = .bool (sgq f t s) ∧ S' = S:=by
  refine CallA.keep Tryz.func66 c566 (Nat.le_of_ble_eq_true rfl) fun σ hσ=>?_
  by_cases h1 : s.f = f
  · simp (disch:=first|omega|(simp only[lenT];omega)) only[a566,sgR,sgq,dT h1,Bool.true_and,evSt,↓eA,eB,evU,seval]
  · simp (disch:=first|omega|(simp only[lenT];omega)) only[a566,sgR,sgq,dF h1,Bool.false_and,evSt,↓eA,eB,evU,seval]
structure FOk (l : List Fl) : Prop where
  h1 : l.length ≤ 1000
  h2 : ∀ x ∈ l,x.legs.length ≤ 300
theorem onL_mem {l : List Fl} {c : Txt} {n day : Int} {x : Fl} (h : onL l c n day = some x) : x ∈ l:=List.mem_of_find?_eq_some h
theorem onL_on {l : List Fl} {c : Txt} {n day : Int} {x : Fl} (h : onL l c n day = some x) : x.c = c ∧ x.n = n ∧ hasF x.p day = true:=by
  have:=List.find?_some h
  simpa [Bool.and_eq_true] using this
theorem segF_none {p : Pls} {l : List Fl} {c : Txt} {n day : Int} {f t : Txt} (h : onL l c n day = none) : segF p l c n day f t = (zSg,7):=by unfold segF;rw[h];rfl
theorem segF_some {p : Pls} {l : List Fl} {c : Txt} {n day : Int} {f t : Txt} {x : Fl} (h : onL l c n day = some x) : segF p l c n day f t = match (segsD p x day).1.find? (sgq f t) with
    | some s=>(s,0)
    | none=>(zSg,14):=by
  unfold segF segsD
  rw[h,if_pos (onL_on h).2.2]
  rfl
theorem segsL_len (L : List Dt) : (segsL L).length ≤ L.length * L.length:=by
  rw[← segsUp_all]
  exact (segsUp_len L L.length (Nat.le_refl _)).2
theorem segsD_len (p : Pls) (x : Fl) (day : Int) (h : x.legs.length ≤ 300) : (segsD p x day).1.length ≤ 90000:=by
  unfold segsD
  split
  · have:=segsL_len (legsF p x day)
    have hl : (legsF p x day).length = x.legs.length:=by simp [legsF]
    rw[hl] at this
    exact Nat.le_trans this (Nat.mul_le_mul h h)
  · exact Nat.zero_le _
theorem seg_A (p : Pls) (hp : POk p) (l : List Fl) (hl : FOk l) (c : Txt) (n day : Int) (f t : Txt) (S : Store) :
    CallA Tryz.prog 21 [plV p,.sl 6 (l.map flR),.str c,.int .i64 n,.int .i64 day,.str f,.str t] S fun r S'=>r = .tup [.agg (sgR (segF p l c n day f t).1),.int .i64 (segF p l c n day f t).2] ∧ S' = S:=by
  refine CallA.back Tryz.func21 c521 (Nat.le_of_ble_eq_true rfl) (R:=fun r=>r = .tup [.agg (sgR (segF p l c n day f t).1),.int .i64 (segF p l c n day f t).2]) fun σ hσ hn=>?_
  simp (disch:=first|omega|(simp only[lenT];omega)) only[a521,plV,evSt,↓eA,eB,evU,seval]
  refine (onC_A l c n day (by have:=hl.h1;omega) _).then ?_
  cases h : onL l c n day with
  | none =>
    rw[segF_none h]
    simp (disch:=first|omega|(simp only[lenT];omega)) only[onR,noFl,zSg,sgR,evSt,↓eA,eB,evU,seval]
    exact ⟨_,⟨_,rfl⟩,.imm rfl,rfl⟩
  | some x =>
    have hx:=hl.h2 x (onL_mem h)
    have hg:=fun S=>segs_A p hp x day hx S
    simp only[plV,flR] at hg
    rw[segF_some h]
    simp (disch:=first|omega|(simp only[lenT];omega)) only[onR,flR,evSt,↓eA,eB,evU,seval]
    refine (hg _).then ?_
    simp (disch:=first|omega|(simp only[lenT];omega)) only[evSt,↓eA,eB,evU,seval]
    refine (firstG_A (segsD p x day).1 (sgq f t) 66 [.cptr [.str f],.cptr [.str t]] (by have:=segsD_len p x day hx;omega) (fun n=>rfl) (fun s S=>seg1_A s f t S) _).then ?_
    cases (segsD p x day).1.find? (sgq f t) with
    | none =>
      simp (disch:=first|omega|(simp only[lenT];omega)) only[sgO,noSg,zSg,sgR,evSt,↓eA,eB,evU,seval]
      exact ⟨_,⟨_,rfl⟩,.imm rfl,rfl⟩
    | some s =>
      simp (disch:=first|omega|(simp only[lenT];omega)) only[sgO,noSg,sgR,evSt,↓eA,eB,evU,seval]
      exact ⟨_,⟨_,rfl⟩,.imm rfl,rfl⟩
theorem rsegF_A (p : Pls) (hp : POk p) (l : List Fl) (hl : FOk l) (c : Txt) (n day : Int) (f t : Txt) (S : Store) :
    CallA Tryz.prog 22 [plV p,.sl 6 (l.map flR),.str c,.int .i64 n,.int .i64 day,.str f,.str t] S fun r S'=>r = .tup [.agg (sgR (segF p l c n day f t).1),.int .i64 (segF p l c n day f t).2] ∧ S' = S:=by
  refine CallA.back Tryz.func22 c522 (Nat.le_of_ble_eq_true rfl) (R:=fun r=>r = .tup [.agg (sgR (segF p l c n day f t).1),.int .i64 (segF p l c n day f t).2]) fun σ hσ hn=>?_
  simp (disch:=first|omega|(simp only[lenT];omega)) only[a522,plV,evSt,↓eA,eB,evU,seval]
  refine (ron_A l c n day (by have:=hl.h1;omega) _).then ?_
  cases h : onL l c n day with
  | none =>
    rw[segF_none h]
    simp (disch:=first|omega|(simp only[lenT];omega)) only[onR,noFl,zSg,sgR,evSt,↓eA,eB,evU,seval]
    exact ⟨_,⟨_,rfl⟩,.imm rfl,rfl⟩
  | some x =>
    have hx:=hl.h2 x (onL_mem h)
    have hg:=fun S=>rsegs_A p hp x day hx S
    simp only[plV,flR] at hg
    rw[segF_some h]
    simp (disch:=first|omega|(simp only[lenT];omega)) only[onR,flR,evSt,↓eA,eB,evU,seval]
    refine (hg _).then ?_
    have hlen:=segsD_len p x day hx
    generalize (segsD p x day).1 = L at hlen
    generalize (segsD p x day).2 = e2
    simp (disch:=first|omega|(simp only[lenT];omega)) only[evSt,↓eA,eB,evU,seval]
    refine loopA (ι:=Nat) (fun k=>[(5,.str f),(6,.str t),(14,.ptr S.length 0 0 0),(18,.sl 7 (L.map sgR)),(20,.int .i64 (k : Nat))]) (fun _=>S ++ [⟨0,some (.arr 50 7 [noSg])⟩,⟨0,some (.arr 41 6 [flR x])⟩]) (fun k=>k ≤ L.length ∧ L.find? (sgq f t) = (L.drop k).find? (sgq f t)) (fun k=>L.length - k) 0 ⟨Nat.zero_le _,rfl⟩ ?_ ?_ ?_
    · simp only[↓eA,eB,evU,seval]
    · simp only[noSg,flR]
    rintro k ⟨hk,hinv⟩
    cases hc : L[k]? with
    | none =>
      have hlt : ¬ ((k : Int) < L.length):=by rw[List.getElem?_eq_none_iff] at hc;omega
      have hf:=find_end hinv hc
      simp (disch:=first|omega|(simp only[lenT];omega)) only[hf,noSg,zSg,sgR,hlt,decide_false,evSt,↓eA,eB,evU,seval]
      exact ⟨_,⟨_,rfl⟩,.imm rfl,rfl⟩
    | some s =>
      have hlt':=(List.getElem?_eq_some_iff.1 hc).1
      have hlt : (k : Int) < L.length:=by omega
      have hk1 : (k : Int) + 1 = ((k + 1 : Nat) : Int):=by omega
      have miss : sgq f t s = false → ∃ i,(i ≤ L.length ∧ L.find? (sgq f t) = (L.drop i).find? (sgq f t)) ∧ L.length - i < L.length - k ∧ ((k + 1 : Nat) : Int) = (i : Nat):=fun h=>⟨k + 1,⟨by omega,find_next hinv hc h⟩,by omega,rfl⟩
      by_cases h1 : s.f = f
      · by_cases h2 : s.t = t
        · have hf:=find_hit hinv hc (by simp [sgq,h1,h2])
          simp (disch:=first|omega|(simp only[lenT];omega)) only[hf,flR,noSg,sgR,hc,hlt,dT h1,dT h2,decide_true,evSt,↓eA,eB,evU,seval]
          exact ⟨_,⟨_,rfl⟩,.imm rfl,rfl⟩
        · simp (disch:=first|omega|(simp only[lenT];omega)) only[flR,noSg,sgR,hc,hlt,dT h1,dF h2,wrap_i64,hk1,decide_true,evSt,↓eA,eB,evU,seval]
          obtain ⟨i,a,b,c⟩:=miss (by simp [sgq,h2])
          exact ⟨i,a,b,c⟩
      · simp (disch:=first|omega|(simp only[lenT];omega)) only[flR,noSg,sgR,hc,hlt,dF h1,wrap_i64,hk1,decide_true,evSt,↓eA,eB,evU,seval]
        obtain ⟨i,a,b,c⟩:=miss (by simp [sgq,h1])
        exact ⟨i,a,b,c⟩
end Go.Proofs.YtiihkfjbllpiaaaGreatDoor
