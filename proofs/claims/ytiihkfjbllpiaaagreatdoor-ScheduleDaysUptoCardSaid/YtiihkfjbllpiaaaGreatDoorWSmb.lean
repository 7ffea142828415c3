/- Schedule: the law Days. -/
import Derived.Test.YtiihkfjbllpiaaaGreatDoorWSma
namespace Go.Proofs.YtiihkfjbllpiaaaGreatDoor
open Go Go.AL
set_option linter.unusedSectionVars false
variable [Go.AL.Mode] [Go.AL.LooseM]
set_option linter.unusedSimpArgs false
set_option linter.unusedVariables false
def eqDt (y a : Dt) : Bool:=decide (y.c = a.c) && (decide (y.n = a.n) && (decide (y.day = a.day) && (decide (y.f = a.f) && (decide (y.t = a.t) && (decide (y.dep = a.dep) && (decide (y.arr = a.arr) && decide (y.eq = a.eq)))))))
theorem eqDt_self (a : Dt) : eqDt a a = true:=by simp [eqDt]
theorem srt_dep {L : List Dt} (h : SrtD L) {i j : Nat} {a b : Dt} (hij : i < j) (ha : L[i]? = some a) (hb : L[j]? = some b) : ¬ b.dep < a.dep:=by
  have h1:=srt_at h hij ha hb
  unfold ltD at h1
  by_cases e : b.dep = a.dep
  · omega
  · rw[if_neg e] at h1
    exact of_decide_eq_false h1
set_option maxHeartbeats 8000000 in
theorem sl_days (p : Pls) (l : List Fl) (day : Int) (hs : SSm p l) (S : Store) : CallA Tryz.prog 4 [plV p,.sl 6 (l.map flR),.int .i64 day] S fun r S'=>r = .bool true ∧ S' = S:=by
  refine CallA.withNeat Tryz.func4 c504 fun hn=>?_
  refine CallA.fin Tryz.func4 c504 (Nat.le_of_ble_eq_true rfl) fun σ hσ=>?_
  have hfew:=fun S=>few_A p l hs S
  have hkn:=fun S=>knows8_A S
  simp only[plV] at hfew
  simp (disch:=first|omega|(simp only[lenT];omega)) only[a504,plV,evSt,↓eA,eB,evU,seval]
  refine (hfew _).mono ?_
  rintro _ S2 ⟨b,rfl,hb,hS2⟩
  rw[hS2]
  cases b with
  | false =>
    simp (disch:=first|omega|(simp only[lenT];omega)) only[evSt,↓eA,eB,evU,seval]
    refine (hkn _).then ?_
    simp (disch:=first|omega|(simp only[lenT];omega)) only[evSt,↓eA,eB,evU,seval]
    exact ⟨_,S,hn.self,.imm rfl,Nat.le_refl _,rfl,rfl⟩
  | true =>
    obtain ⟨hp,hl,h12⟩:=few_ok hs (hb rfl)
    have h1:=fun S=>rtt0_A p hp l (by omega) hs.h3 S
    simp only[plV] at h1
    simp (disch:=first|omega|(simp only[lenT];omega)) only[evSt,↓eA,eB,evU,seval]
    refine (h1 _).then ?_
    by_cases h0 : ttF p l rT = []
    case neg =>
      have h0' : decide ((0 : Int) < (ttF p l rT).length) = true:=decide_eq_true (by have:=List.length_pos_iff.2 h0;omega)
      simp (disch:=first|omega|(simp only[lenT];omega)) only[h0',evSt,↓eA,eB,evU,seval]
      refine (hkn _).then ?_
      simp (disch:=first|omega|(simp only[lenT];omega)) only[evSt,↓eA,eB,evU,seval]
      exact ⟨_,S,hn.self,.imm rfl,Nat.le_refl _,rfl,rfl⟩
    have h0' : decide ((0 : Int) < (ttF p l rT).length) = false:=decide_eq_false (by rw[h0];simp)
    have ht:=ttD h0
    have g5:=fun S=>dayT_A p hp l hl ht day S
    have hdl:=dayF_len p hl day
    have hds:=dayF_S p l day
    have hlen:=hds.2.length_eq
    generalize dayF p l day = D at g5 hdl hds hlen
    have hal:=allL_len p hl day
    simp only[plV] at g5
    simp (disch:=first|omega|(simp only[lenT];omega)) only[h0',evSt,↓eA,eB,evU,seval]
    refine (g5 _).then ?_
    simp (disch:=first|omega|(simp only[lenT];omega)) only[evSt,↓eA,eB,evU,seval]
    refine loopA (ι:=Nat) (fun i=>[(1,.sl 6 (l.map flR)),(2,.int .i64 day),(3,.cptr [.sl 5 (p.1.map aptR),.sl 3 (p.2.map dstR)]),(7,.sl 8 (D.map dtR)),(8,.int .i64 (allL p (l.take i) day).length),(9,.int .i64 (i : Nat))]) (fun _=>S) (fun i=>i ≤ l.length) (fun i=>l.length - i) 0 (Nat.zero_le _) ?_ rfl ?_
    · simp only[allL,List.flatMap_nil,↓eA,eB,evU,seval]
      try rfl
    intro i hi
    have hali:=hal i
    cases hc : l[i]? with
    | some x =>
      have hlt':=(List.getElem?_eq_some_iff.1 hc).1
      have hlt : ((i : Int) < l.length):=by omega
      have hi1 : (i : Int) + 1 = ((i + 1 : Nat) : Int):=by omega
      have hst:=allL_step p day hc
      have hxl:=hl.h2 x (List.mem_of_getElem? hc)
      have hll:=legsD_len p x day
      have hg:=fun S=>legs_A p hp x day (by omega) S
      have hsum : ((allL p (l.take i) day).length : Int) + (legsD p x day).1.length = ((allL p (l.take (i + 1)) day).length : Nat):=by rw[hst,List.length_append];omega
      have hali1:=hal (i + 1)
      simp only[plV,flR] at hg
      simp (disch:=first|omega|(simp only[lenT];omega)) only[dT hlt,hc,flR,evSt,↓eA,eB,evU,seval]
      refine (hg _).then ?_
      simp (disch:=first|omega|(simp only[lenT];omega)) only[wrap_i64,hi1,hsum,evSt,↓eA,eB,evU,seval]
      exact ⟨i + 1,by omega,by omega,rfl,rfl⟩
    | none =>
    have hge:=List.getElem?_eq_none_iff.1 hc
    have hlt : ¬ ((i : Int) < l.length):=by omega
    rw[List.take_of_length_le hge,← hlen]
    simp (disch:=first|omega|(simp only[lenT];omega)) only[dF hlt,evSt,↓eA,eB,evU,seval]
    refine loopF (ι:=Nat) (fun i=>[(1,.sl 6 (l.map flR)),(2,.int .i64 day),(3,.cptr [.sl 5 (p.1.map aptR),.sl 3 (p.2.map dstR)]),(7,.sl 8 (D.map dtR)),(8,.int .i64 D.length),(12,.int .i64 (i : Nat))]) (fun _=>S) (fun i=>i ≤ D.length) (fun i=>D.length - i) (fun i hi=>by rw[hσ];exact Nat.le_refl _) 0 (Nat.zero_le _) (.inl ⟨?_,rfl⟩) ?_
    · simp only[↓eA,eB,evU,seval]
      try rfl
    clear hi hali hc hge hlt
    intro i hi
    cases hc : D[i]? with
    | none =>
      have hge:=List.getElem?_eq_none_iff.1 hc
      have hlt : ¬ ((i : Int) < D.length):=by omega
      simp (disch:=first|omega|(simp only[lenT];omega)) only[dF hlt,eq_self,decide_true,evSt,↓eA,eB,evU,seval]
      refine (hkn _).then ?_
      simp (disch:=first|omega|(simp only[lenT];omega)) only[evSt,↓eA,eB,evU,seval]
      exact ⟨_,S,hn.self,.imm rfl,Nat.le_refl _,rfl,rfl⟩
    | some a =>
      have hlt':=(List.getElem?_eq_some_iff.1 hc).1
      have hlt : ((i : Int) < D.length):=by omega
      have hi1 : (i : Int) + 1 = ((i + 1 : Nat) : Int):=by omega
      obtain ⟨x,hx,hdx,hax⟩:=allL_mem (hds.2.mem_iff.1 (List.mem_of_getElem? hc))
      obtain ⟨a1,a2,a3⟩:=leg_of hax
      have hon:=tt_on ht.ok hx hdx
      have g1:=fun S=>onC_A l a.c a.n day (by have:=hl.h1;omega) S
      rw[a1,a2,hon] at g1
      have hxl:=hl.h2 x hx
      have g2:=fun S=>legs_A p hp x day (by omega) S
      have hD1 : legsD p x day = (legsF p x day,0):=by simp [legsD,hdx]
      rw[hD1] at g2
      have hyl : (legsF p x day).length ≤ 300:=by simp [legsF];exact hxl
      simp only at g2
      generalize legsF p x day = ys at g2 hax hyl
      simp only[plV,flR] at g1 g2
      have hin : ys.any (fun y=>eqDt y a) = true:=List.any_eq_true.2 ⟨a,hax,eqDt_self a⟩
      have hbef : ∀ b,0 < i → D[i - 1]? = some b → ¬ a.dep < b.dep:=fun b h0 hb=>srt_dep hds.1 (by omega) hb hc
      rw[← a1,← a2] at g1
      have hlast : ∃ b,(0 < i → D[i - 1]? = some b) ∧ (0 < i → ¬ a.dep < b.dep):=by
        by_cases hi0 : 0 < i
        · have hx1 : D[i - 1]? = some (D[i - 1]'(by omega)):=List.getElem?_eq_getElem _
          exact ⟨_,fun _=>hx1,fun h=>hbef _ h hx1⟩
        · exact ⟨a,fun h=>absurd h hi0,fun h=>absurd h hi0⟩
      simp (disch:=first|omega|(simp only[lenT];omega)) only[dT hlt,hc,dtR,flR,evSt,↓eA,eB,evU,seval]
      refine ⟨?_,?_⟩
      all_goals
        refine (g1 _).then ?_
        simp (disch:=first|omega|(simp only[lenT];omega)) only[onR,flR,evSt,↓eA,eB,evU,seval]
        obtain ⟨b,hb1,hb2⟩:=hlast
        by_cases hi0 : 0 < i
        · have hp0 : ((0 : Int) < (i : Nat)):=by omega
          have hs1 : (i : Int) - 1 = ((i - 1 : Nat) : Int):=by omega
          have hbb:=hb1 hi0
          have hnb:=hb2 hi0
          simp (disch:=first|omega|(simp only[lenT];omega)) only[dT hp0,dT a3,dF hnb,hs1,hbb,hc,dtR,wrap_i64,evSt,↓eA,eB,evU,seval]
          refine (g2 _).then ?_
          simp (disch:=first|omega|(simp only[lenT];omega)) only[evSt,↓eA,eB,evU,seval]
          refine loopA (ι:=Nat) (fun k=>[(1,.sl 6 (l.map flR)),(2,.int .i64 day),(3,.cptr [.sl 5 (p.1.map aptR),.sl 3 (p.2.map dstR)]),(7,.sl 8 (D.map dtR)),(8,.int .i64 D.length),(12,.int .i64 (i : Nat)),(15,.sl 8 (ys.map dtR)),(17,.bool ((ys.take k).any fun y=>eqDt y a)),(18,.int .i64 (k : Nat))])
            (fun _=>S ++ [⟨0,some (.arr 41 6 [flR x])⟩]) (fun k=>k ≤ ys.length) (fun k=>ys.length - k) 0 (Nat.zero_le _) ?_ rfl ?_
          · simp only[List.any_nil,↓eA,eB,evU,seval]
            try rfl
          intro k hk
          cases hcy : ys[k]? with
          | some y =>
            have hltk':=(List.getElem?_eq_some_iff.1 hcy).1
            have hltk : ((k : Int) < ys.length):=by omega
            have hk1 : (k : Int) + 1 = ((k + 1 : Nat) : Int):=by omega
            have hnx : ((ys.take (k + 1)).any fun y=>eqDt y a) = (((ys.take k).any fun y=>eqDt y a) || eqDt y a):=by rw[take_at hcy,List.any_append];simp
            cases hA : (ys.take k).any fun y=>eqDt y a with
            | true =>
              rw[hA,Bool.true_or] at hnx
              simp (disch:=first|omega|(simp only[lenT];omega)) only[dT hltk,hcy,hc,dtR,wrap_i64,hk1,evSt,↓eA,eB,evU,seval]
              exact ⟨k + 1,by omega,by omega,by rw[hnx];first | done | rfl | exact ⟨rfl,rfl⟩,rfl⟩
            | false =>
              rw[hA,Bool.false_or] at hnx
              simp (disch:=first|omega|(simp only[lenT];omega)) only[dT hltk,hcy,hc,dtR,wrap_i64,hk1,evSt,↓eA,eB,evU,seval]
              exact ⟨k + 1,by omega,by omega,by rw[hnx];first | done | rfl | exact ⟨rfl,rfl⟩,rfl⟩
          | none =>
            have hgek:=List.getElem?_eq_none_iff.1 hcy
            have hltk : ¬ ((k : Int) < ys.length):=by omega
            rw[List.take_of_length_le hgek,hin]
            simp (disch:=first|omega|(simp only[lenT];omega)) only[dF hltk,wrap_i64,hi1,evSt,↓eA,eB,evU,seval]
            exact ⟨i + 1,by omega,by omega,back_under (hn.fgt _) (by simp only[↓eA,eB,evU,seval];try rfl) (by simp [V.under,V.allUnder])⟩
        · have hp0 : ¬ ((0 : Int) < (i : Nat)):=by omega
          simp (disch:=first|omega|(simp only[lenT];omega)) only[dF hp0,dT a3,hc,dtR,wrap_i64,evSt,↓eA,eB,evU,seval]
          refine (g2 _).then ?_
          simp (disch:=first|omega|(simp only[lenT];omega)) only[evSt,↓eA,eB,evU,seval]
          refine loopA (ι:=Nat) (fun k=>[(1,.sl 6 (l.map flR)),(2,.int .i64 day),(3,.cptr [.sl 5 (p.1.map aptR),.sl 3 (p.2.map dstR)]),(7,.sl 8 (D.map dtR)),(8,.int .i64 D.length),(12,.int .i64 (i : Nat)),(15,.sl 8 (ys.map dtR)),(17,.bool ((ys.take k).any fun y=>eqDt y a)),(18,.int .i64 (k : Nat))])
            (fun _=>S ++ [⟨0,some (.arr 41 6 [flR x])⟩]) (fun k=>k ≤ ys.length) (fun k=>ys.length - k) 0 (Nat.zero_le _) ?_ rfl ?_
          · simp only[List.any_nil,↓eA,eB,evU,seval]
            try rfl
          intro k hk
          cases hcy : ys[k]? with
          | some y =>
            have hltk':=(List.getElem?_eq_some_iff.1 hcy).1
            have hltk : ((k : Int) < ys.length):=by omega
            have hk1 : (k : Int) + 1 = ((k + 1 : Nat) : Int):=by omega
            have hnx : ((ys.take (k + 1)).any fun y=>eqDt y a) = (((ys.take k).any fun y=>eqDt y a) || eqDt y a):=by rw[take_at hcy,List.any_append];simp
            cases hA : (ys.take k).any fun y=>eqDt y a with
            | true =>
              rw[hA,Bool.true_or] at hnx
              simp (disch:=first|omega|(simp only[lenT];omega)) only[dT hltk,hcy,hc,dtR,wrap_i64,hk1,evSt,↓eA,eB,evU,seval]
              exact ⟨k + 1,by omega,by omega,by rw[hnx];first | done | rfl | exact ⟨rfl,rfl⟩,rfl⟩
            | false =>
              rw[hA,Bool.false_or] at hnx
              simp (disch:=first|omega|(simp only[lenT];omega)) only[dT hltk,hcy,hc,dtR,wrap_i64,hk1,evSt,↓eA,eB,evU,seval]
              exact ⟨k + 1,by omega,by omega,by rw[hnx];first | done | rfl | exact ⟨rfl,rfl⟩,rfl⟩
          | none =>
            have hgek:=List.getElem?_eq_none_iff.1 hcy
            have hltk : ¬ ((k : Int) < ys.length):=by omega
            rw[List.take_of_length_le hgek,hin]
            simp (disch:=first|omega|(simp only[lenT];omega)) only[dF hltk,wrap_i64,hi1,evSt,↓eA,eB,evU,seval]
            exact ⟨i + 1,by omega,by omega,back_under (hn.fgt _) (by simp only[↓eA,eB,evU,seval];try rfl) (by simp [V.under,V.allUnder])⟩
end Go.Proofs.YtiihkfjbllpiaaaGreatDoor
