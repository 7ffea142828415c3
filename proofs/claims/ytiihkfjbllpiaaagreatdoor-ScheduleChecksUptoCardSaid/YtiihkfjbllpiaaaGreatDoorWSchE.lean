/- The reference's dates, as texts. The reference's look at places: that it comes to an end, and that zones are short where it finds nothing. -/
import Derived.Test.YtiihkfjbllpiaaaGreatDoorWScaC
import Derived.Test.YtiihkfjbllpiaaaGreatDoorWSchQ
namespace Go.Proofs.YtiihkfjbllpiaaaGreatDoor
open Go Go.AL
set_option linter.unusedSectionVars false
variable [Go.AL.Mode] [Go.AL.LooseM]
set_option linter.unusedSimpArgs false
set_option linter.unusedVariables false
def monL (y m : Nat) : Nat:=if m = 4 ∨ m = 6 ∨ m = 9 ∨ m = 11 then 30 else if m = 2 then (if y % 4 = 0 then 29 else 28) else 31
theorem monL_le (y m : Nat) : 28 ≤ monL y m ∧ monL y m ≤ 31:=by unfold monL;split<;>(try split)<;>(try split)<;>omega
theorem rlength_A (y m : Nat) (S : Store) : CallA Tryz.prog 171 [.int .i64 y,.int .i64 m] S fun r S'=>r = .int .i64 (monL y m : Nat) ∧ S' = S:=by
  refine CallA.keep Tryz.func171 c671 (Nat.le_of_ble_eq_true rfl) fun σ hσ=>?_
  have e4 : (y : Int).tmod 4 = ((y % 4 : Nat) : Int):=by rw[Int.tmod_eq_emod_of_nonneg (by omega)];omega
  unfold monL
  by_cases h1 : m = 4
  · have k1 : decide ((m : Int) = 4) = true:=decide_eq_true (by omega)
    rw[if_pos (by omega)]
    simp (disch:=first|omega|(simp only[lenT];omega)) only[a671,k1,evSt,↓eA,eB,evU,seval]
    try simp
  have k1 : decide ((m : Int) = 4) = false:=decide_eq_false (by omega)
  by_cases h2 : m = 6
  · have k2 : decide ((m : Int) = 6) = true:=decide_eq_true (by omega)
    rw[if_pos (by omega)]
    simp (disch:=first|omega|(simp only[lenT];omega)) only[a671,k1,k2,evSt,↓eA,eB,evU,seval]
    try simp
  have k2 : decide ((m : Int) = 6) = false:=decide_eq_false (by omega)
  by_cases h3 : m = 9
  · have k3 : decide ((m : Int) = 9) = true:=decide_eq_true (by omega)
    rw[if_pos (by omega)]
    simp (disch:=first|omega|(simp only[lenT];omega)) only[a671,k1,k2,k3,evSt,↓eA,eB,evU,seval]
    try simp
  have k3 : decide ((m : Int) = 9) = false:=decide_eq_false (by omega)
  by_cases h4 : m = 11
  · have k4 : decide ((m : Int) = 11) = true:=decide_eq_true (by omega)
    rw[if_pos (by omega)]
    simp (disch:=first|omega|(simp only[lenT];omega)) only[a671,k1,k2,k3,k4,evSt,↓eA,eB,evU,seval]
    try simp
  have k4 : decide ((m : Int) = 11) = false:=decide_eq_false (by omega)
  rw[if_neg (by omega)]
  by_cases h5 : m = 2
  · have k5 : decide ((m : Int) = 2) = true:=decide_eq_true (by omega)
    rw[if_pos h5]
    by_cases h6 : y % 4 = 0
    · have k6 : decide (((y % 4 : Nat) : Int) = 0) = true:=decide_eq_true (by omega)
      rw[if_pos h6]
      simp (disch:=first|omega|(simp only[lenT];omega)) only[a671,k1,k2,k3,k4,k5,e4,k6,evSt,↓eA,eB,evU,seval]
      try simp
    · have k6 : decide (((y % 4 : Nat) : Int) = 0) = false:=decide_eq_false (by omega)
      rw[if_neg h6]
      simp (disch:=first|omega|(simp only[lenT];omega)) only[a671,k1,k2,k3,k4,k5,e4,k6,evSt,↓eA,eB,evU,seval]
      try simp
  · have k5 : decide ((m : Int) = 2) = false:=decide_eq_false (by omega)
    rw[if_neg h5]
    simp (disch:=first|omega|(simp only[lenT];omega)) only[a671,k1,k2,k3,k4,k5,evSt,↓eA,eB,evU,seval]
    try simp
def dateL : Nat → Nat → Nat → Nat → Nat × Nat × Nat
  | 0,y,m,d=>(y,m,d + 1)
  | n + 1,y,m,d=>if d < monL y m then (y,m,d + 1) else if m = 12 then dateL n (y + 1) 1 (d - monL y m) else dateL n y (m + 1) (d - monL y m)
def dateF (d : Nat) : Nat × Nat × Nat:=dateL d 2000 1 d
theorem rdate_A (d : Nat) (hd : d < 36525) (S : Store) : CallA Tryz.prog 144 [.int .i64 d] S fun r S'=>r = .tup [.int .i64 (dateF d).1,.int .i64 (dateF d).2.1,.int .i64 (dateF d).2.2] ∧ S' = S:=by
  refine CallA.keep Tryz.func144 c644 (Nat.le_of_ble_eq_true rfl) fun σ hσ=>?_
  have k1 : ¬ ((d : Int) < 0):=by omega
  have k2 : ¬ (36525 ≤ (d : Int)):=by omega
  simp (disch:=first|omega|(simp only[lenT];omega)) only[a644,dF k1,dF k2,evSt,↓evPre,↓evPreW,evPost,evPostW,← List.map_take,← List.map_drop,↓reduceIte,reduceCtorEq,Nat.reduceEqDiff,forall_const,implies_true,Nat.reduceAdd,Nat.reduceSub,Nat.reduceMul,Nat.reduceLT,Nat.reduceLeDiff,Int.reduceToNat,Int.reduceAdd,Int.reduceSub,Int.reduceNeg,Int.reduceMul,Int.reduceLT,Int.reduceLE,Int.reduceEq]
  refine loopA (ι:=Nat × Nat × Nat) (fun i=>[(0,.int .i64 (i.2.2 : Nat)),(5,.int .i64 (i.1 : Nat)),(6,.int .i64 (i.2.1 : Nat))]) (fun _=>S) (fun i=>2000 ≤ i.1 ∧ i.1 + i.2.2 ≤ 2000 + d ∧ 1 ≤ i.2.1 ∧ i.2.1 ≤ 12 ∧ ∃ n,i.2.2 ≤ n ∧ dateL n i.1 i.2.1 i.2.2 = dateF d) (fun i=>i.2.2) (2000,1,d) ⟨by omega,by simp only;omega,by simp,by simp,d,Nat.le_refl _,rfl⟩ ?_ rfl ?_
  · simp only[↓evPre,↓evPreW,evPost,evPostW,← List.map_take,← List.map_drop,↓reduceIte,reduceCtorEq,Nat.reduceEqDiff,forall_const,implies_true,Nat.reduceAdd,Nat.reduceSub,Nat.reduceMul,Nat.reduceLT,Nat.reduceLeDiff,Int.reduceToNat,Int.reduceAdd,Int.reduceSub,Int.reduceNeg,Int.reduceMul,Int.reduceLT,Int.reduceLE,Int.reduceEq]
    try rfl
  rintro ⟨y,m,e⟩ ⟨h1,h2,h3,h4,n,h5,h6⟩
  simp only at h1 h2 h3 h4 h5 h6 ⊢
  have hm:=monL_le y m
  simp (disch:=first|omega|(simp only[lenT];omega)) only[evSt,↓evPre,↓evPreW,evPost,evPostW,← List.map_take,← List.map_drop,↓reduceIte,reduceCtorEq,Nat.reduceEqDiff,forall_const,implies_true,Nat.reduceAdd,Nat.reduceSub,Nat.reduceMul,Nat.reduceLT,Nat.reduceLeDiff,Int.reduceToNat,Int.reduceAdd,Int.reduceSub,Int.reduceNeg,Int.reduceMul,Int.reduceLT,Int.reduceLE,Int.reduceEq]
  refine (rlength_A y m S).then ?_
  by_cases hlt : e < monL y m
  · have hge : ¬ ((monL y m : Int) ≤ e):=by omega
    have hr : dateF d = (y,m,e + 1):=by
      rw[← h6]
      cases n with
      | zero=>rfl
      | succ n=>rw[dateL,if_pos hlt]
    simp (disch:=first|omega|(simp only[lenT];omega)) only[dF hge,wrap_i64,hr,evSt,↓evPre,↓evPreW,evPost,evPostW,← List.map_take,← List.map_drop,↓reduceIte,reduceCtorEq,Nat.reduceEqDiff,forall_const,implies_true,Nat.reduceAdd,Nat.reduceSub,Nat.reduceMul,Nat.reduceLT,Nat.reduceLeDiff,Int.reduceToNat,Int.reduceAdd,Int.reduceSub,Int.reduceNeg,Int.reduceMul,Int.reduceLT,Int.reduceLE,Int.reduceEq]
    try simp
  · have hge : ((monL y m : Int) ≤ e):=by omega
    obtain ⟨k,rfl⟩ : ∃ k,n = k + 1:=⟨n - 1,by omega⟩
    have hs : (e : Int) - (monL y m : Nat) = ((e - monL y m : Nat) : Int):=by omega
    rw[dateL,if_neg hlt] at h6
    simp (disch:=first|omega|(simp only[lenT];omega)) only[dT hge,evSt,↓evPre,↓evPreW,evPost,evPostW,← List.map_take,← List.map_drop,↓reduceIte,reduceCtorEq,Nat.reduceEqDiff,forall_const,implies_true,Nat.reduceAdd,Nat.reduceSub,Nat.reduceMul,Nat.reduceLT,Nat.reduceLeDiff,Int.reduceToNat,Int.reduceAdd,Int.reduceSub,Int.reduceNeg,Int.reduceMul,Int.reduceLT,Int.reduceLE,Int.reduceEq]
    refine (rlength_A y m S).then ?_
    by_cases hm12 : m = 12
    · subst hm12
      rw[if_pos rfl] at h6
      have hy1 : (y : Int) + 1 = ((y + 1 : Nat) : Int):=by omega
      simp (disch:=first|omega|(simp only[lenT];omega)) only[wrap_i64,hs,hy1,evSt,↓evPre,↓evPreW,evPost,evPostW,← List.map_take,← List.map_drop,↓reduceIte,reduceCtorEq,Nat.reduceEqDiff,forall_const,implies_true,Nat.reduceAdd,Nat.reduceSub,Nat.reduceMul,Nat.reduceLT,Nat.reduceLeDiff,Int.reduceToNat,Int.reduceAdd,Int.reduceSub,Int.reduceNeg,Int.reduceMul,Int.reduceLT,Int.reduceLE,Int.reduceEq]
      refine ⟨fun _=>⟨(y + 1,1,e - monL y 12),⟨by simp only;omega,by simp only;omega,by simp,by simp,k,by simp only;omega,h6⟩,by simp only;omega,rfl,rfl,rfl⟩,fun h=>absurd (by decide) h⟩
    · rw[if_neg hm12] at h6
      have hm1 : (m : Int) + 1 = ((m + 1 : Nat) : Int):=by omega
      have hne : decide (((m + 1 : Nat) : Int) = 13) = false:=decide_eq_false (by omega)
      simp (disch:=first|omega|(simp only[lenT];omega)) only[wrap_i64,hs,hm1,hne,evSt,↓evPre,↓evPreW,evPost,evPostW,← List.map_take,← List.map_drop,↓reduceIte,reduceCtorEq,Nat.reduceEqDiff,forall_const,implies_true,Nat.reduceAdd,Nat.reduceSub,Nat.reduceMul,Nat.reduceLT,Nat.reduceLeDiff,Int.reduceToNat,Int.reduceAdd,Int.reduceSub,Int.reduceNeg,Int.reduceMul,Int.reduceLT,Int.reduceLE,Int.reduceEq]
      exact ⟨(y,m + 1,e - monL y m),⟨h1,by simp only;omega,by simp,by simp only;omega,k,by simp only;omega,h6⟩,by simp only;omega,rfl,rfl,rfl⟩
def twoB (n : Nat) : Txt:=[UInt8.ofNat (48 + n / 10),UInt8.ofNat (48 + n % 10)]
theorem rtwo_A (n : Nat) (hn : n < 1000000) (S : Store) : CallA Tryz.prog 145 [.int .i64 n] S fun r S'=>r = .str (twoB n) ∧ S' = S:=by
  refine CallA.keep Tryz.func145 c645 (Nat.le_of_ble_eq_true rfl) fun σ hσ=>?_
  have e1 : (n : Int).tdiv 10 = ((n / 10 : Nat) : Int):=by rw[Int.tdiv_eq_ediv_of_nonneg (by omega)];omega
  have e2 : (n : Int).tmod 10 = ((n % 10 : Nat) : Int):=by rw[Int.tmod_eq_emod_of_nonneg (by omega)];omega
  have u : ∀ a : Nat,IntKind.u8.wrap (48 + (a : Int)) = (((UInt8.ofNat (48 + a)).toNat : Nat) : Int):=fun a=>by
    simp only[IntKind.wrap,IntKind.signed,IntKind.bits,UInt8.toNat_ofNat']
    simp
  have hb : b2sV S (.sl 1 [[.int .u8 (IntKind.u8.wrap (48 + (n / 10 : Nat)))],[.int .u8 (IntKind.u8.wrap (48 + (n % 10 : Nat)))]]) = some (.str (twoB n)):=by
    rw[u,u]
    exact b2s_sl (l:=twoB n)
  simp (disch:=first|omega|(simp only[lenT];omega)) only[a645,e1,e2,hb,wrap_i64,evSt,↓eA,eB,evU,seval]
def prtF (d : Nat) : Txt:=twoB ((dateF d).1 / 100) ++ (twoB ((dateF d).1 % 100) ++ ([45] ++ (twoB (dateF d).2.1 ++ ([45] ++ twoB (dateF d).2.2))))
theorem prtF_len (d : Nat) : (prtF d).length = 10:=rfl
theorem date_ge : ∀ (n y m d : Nat),y ≤ (dateL n y m d).1 ∧ (dateL n y m d).1 ≤ y + d ∧ (m ≤ 12 → (dateL n y m d).2.1 ≤ 12) ∧ (dateL n y m d).2.2 ≤ d + 1
  | 0,y,m,d=>⟨Nat.le_refl _,Nat.le_add_right _ _,id,Nat.le_refl _⟩
  | n + 1,y,m,d=>by
    rw[dateL]
    have hm:=monL_le y m
    split
    · exact ⟨Nat.le_refl _,Nat.le_add_right _ _,id,Nat.le_refl _⟩
    · split
      · obtain ⟨h1,h2,h3,h4⟩:=date_ge n (y + 1) 1 (d - monL y m)
        exact ⟨by omega,by omega,fun _=>h3 (by omega),by omega⟩
      · obtain ⟨h1,h2,h3,h4⟩:=date_ge n y (m + 1) (d - monL y m)
        exact ⟨by omega,by omega,fun h=>h3 (by omega),by omega⟩
theorem rprint_A (d : Nat) (hd : d < 36525) (S : Store) : CallA Tryz.prog 104 [.int .i64 d] S fun r S'=>r = .str (prtF d) ∧ S' = S:=by
  refine CallA.keep Tryz.func104 c604 (Nat.le_of_ble_eq_true rfl) fun σ hσ=>?_
  obtain ⟨g1,g2,g3,g4⟩:=date_ge d 2000 1 d
  have g5:=g3 (by omega)
  have hda:=fun S=>rdate_A d hd S
  have hp : prtF d = twoB ((dateF d).1 / 100) ++ (twoB ((dateF d).1 % 100) ++ ([45] ++ (twoB (dateF d).2.1 ++ ([45] ++ twoB (dateF d).2.2)))):=rfl
  rw[hp]
  simp only[dateF] at hda ⊢
  revert hda g1 g2 g4 g5
  generalize dateL d 2000 1 d = q
  obtain ⟨y,m,e⟩:=q
  intro g1 g2 g4 g5 hda
  simp only at g1 g2 g4 g5 hda ⊢
  have e1 : (y : Int).tdiv 100 = ((y / 100 : Nat) : Int):=by rw[Int.tdiv_eq_ediv_of_nonneg (by omega)];omega
  have e2 : (y : Int).tmod 100 = ((y % 100 : Nat) : Int):=by rw[Int.tmod_eq_emod_of_nonneg (by omega)];omega
  have k0 : decide ((y : Int) = 0) = false:=decide_eq_false (by omega)
  have b1 : binV .add (.str (twoB (y / 100))) (.str (twoB (y % 100))) = some (.str (twoB (y / 100) ++ twoB (y % 100))):=bs_add (Nat.le_of_ble_eq_true rfl)
  have b2 : binV .add (.str (twoB (y / 100) ++ twoB (y % 100))) (.str [45]) = some (.str (twoB (y / 100) ++ twoB (y % 100) ++ [45])):=bs_add (Nat.le_of_ble_eq_true rfl)
  have b3 : binV .add (.str (twoB (y / 100) ++ twoB (y % 100) ++ [45])) (.str (twoB m)) = some (.str (twoB (y / 100) ++ twoB (y % 100) ++ [45] ++ twoB m)):=bs_add (Nat.le_of_ble_eq_true rfl)
  have b4 : binV .add (.str (twoB (y / 100) ++ twoB (y % 100) ++ [45] ++ twoB m)) (.str [45]) = some (.str (twoB (y / 100) ++ twoB (y % 100) ++ [45] ++ twoB m ++ [45])):=bs_add (Nat.le_of_ble_eq_true rfl)
  have b5 : binV .add (.str (twoB (y / 100) ++ twoB (y % 100) ++ [45] ++ twoB m ++ [45])) (.str (twoB e)) = some (.str (twoB (y / 100) ++ twoB (y % 100) ++ [45] ++ twoB m ++ [45] ++ twoB e)):=bs_add (Nat.le_of_ble_eq_true rfl)
  simp (disch:=first|omega|(simp only[lenT];omega)) only[a604,evSt,↓eA,eB,evU,seval]
  refine (hda _).then ?_
  simp (disch:=first|omega|(simp only[lenT];omega)) only[k0,e1,e2,wrap_i64,evSt,↓eA,eB,evU,seval]
  refine (rtwo_A (y / 100) (by omega) _).then ?_
  simp (disch:=first|omega|(simp only[lenT];omega)) only[k0,e1,e2,wrap_i64,evSt,↓eA,eB,evU,seval]
  refine (rtwo_A (y % 100) (by omega) _).then ?_
  simp (disch:=first|omega|(simp only[lenT];omega)) only[k0,e1,e2,b1,b2,wrap_i64,evSt,↓eA,eB,evU,seval]
  refine (rtwo_A m (by omega) _).then ?_
  simp (disch:=first|omega|(simp only[lenT];omega)) only[b3,b4,wrap_i64,evSt,↓eA,eB,evU,seval]
  refine (rtwo_A e (by omega) _).then ?_
  simp (disch:=first|omega|(simp only[lenT];omega)) only[b5,wrap_i64,evSt,↓eA,eB,evU,seval]
  try simp
def dg (n : Nat) : Txt:=[UInt8.ofNat (48 + n)]
def digX : Nat → Nat → Txt
  | 0,n=>dg n
  | k + 1,n=>if n < 10 then dg n else digX k (n / 10) ++ dg (n % 10)
theorem digX_len : ∀ k n,(digX k n).length ≤ k + 1
  | 0,n=>by simp [digX,dg]
  | k + 1,n=>by
    rw[digX]
    split
    · simp [dg]
    · have:=digX_len k (n / 10)
      simp only[List.length_append,dg,List.length_cons,List.length_nil]
      omega
theorem digX_A : ∀ (k n : Nat) (S : Store),k ≤ 40 → n < 10 ^ (k + 1) → n < 18446744073709551616 → CallA Tryz.prog 95 [.int .u64 n] S fun r S'=>r = .str (digX k n) ∧ S' = S
  | 0,n,S,hk40,hn,h64=>by
    have h:=digit_A n S (by simpa using hn)
    rw[show decB n = digX 0 n by unfold decB digX dg;rw[if_pos (by simpa using hn)]] at h
    exact h
  | k + 1,n,S,hk40,hn,h64=>by
    by_cases h : n < 10
    · have h1:=digit_A n S h
      rw[show decB n = digX (k + 1) n by unfold decB digX dg;rw[if_pos h,if_pos h]] at h1
      exact h1
    refine CallA.keep Tryz.func95 c595 (Nat.le_of_ble_eq_true rfl) fun σ hσ=>?_
    have h' : ¬ (n : Int) < 10:=by omega
    have e1 : (n : Int).tdiv 10 = ((n / 10 : Nat) : Int):=by rw[Int.tdiv_eq_ediv_of_nonneg (by omega)];omega
    have e2 : (n : Int).tmod 10 = ((n % 10 : Nat) : Int):=by rw[Int.tmod_eq_emod_of_nonneg (by omega)];omega
    have hc : ((n % 10 : Nat) : Int) + 1 = ((n % 10 + 1 : Nat) : Int):=by omega
    have hs : cutS [48,49,50,51,52,53,54,55,56,57] (some ((n % 10 : Nat) : Int)) (some ((n % 10 + 1 : Nat) : Int)) = some (.str (dg (n % 10))):=by
      have h10 : n % 10 < 10:=by omega
      rw[show dg (n % 10) = decB (n % 10) by unfold decB dg;rw[if_pos h10]]
      rw[cutS_some,if_pos ⟨by omega,by omega,by simp only[List.length_cons,List.length_nil];omega⟩,← dg10_at h10,Int.toNat_natCast,Int.toNat_natCast,Nat.add_sub_cancel_left]
      rfl
    have ha : binV .add (.str (digX k (n / 10))) (.str (dg (n % 10))) = some (.str (digX k (n / 10) ++ dg (n % 10))):=bs_add (by have:=digX_len k (n / 10);have : (dg (n % 10)).length = 1:=rfl;unfold maxLen;omega)
    have he : digX (k + 1) n = digX k (n / 10) ++ dg (n % 10):=by rw[digX,if_neg h]
    have hp : n / 10 < 10 ^ (k + 1):=by
      rw[Nat.div_lt_iff_lt_mul (by omega)]
      rwa [Nat.pow_succ] at hn
    simp (disch:=omega) only[a595,h',e1,e2,hc,hs,wrap_u64,decide_false,↓eA,eB,evU,seval]
    refine (digX_A k (n / 10) S (by omega) hp (by omega)).then ?_
    simp (disch:=omega) only[h',e1,e2,hc,hs,he,ha,wrap_u64,decide_false,↓eA,eB,evU,seval]
def decX (n : Nat) : Txt:=digX 19 n
theorem decX_len (n : Nat) : (decX n).length ≤ 20:=digX_len 19 n
theorem decX_A (n : Nat) (hn : n < 4294967296) (S : Store) : CallA Tryz.prog 50 [.int .i64 n] S fun r S'=>r = .str (decX n) ∧ S' = S:=by
  refine CallA.keep Tryz.func50 c550 (Nat.le_of_ble_eq_true rfl) fun σ hσ=>?_
  have h' : ¬ (n : Int) < 0:=by omega
  simp (disch:=omega) only[a550,h',wrap_u64,decide_false,↓eA,eB,evU,seval]
  refine (digX_A 19 n S (by omega) (by omega) (by omega)).then ?_
  simp only[decX,↓eA,eB,evU,seval]
def letF (s : Txt) (n : Nat) : Bool:=s.all up && decide (s.length = n)
theorem letters_A (s : Txt) (n : Nat) (hs : s.length ≤ 9223372036854775807) (S : Store) : CallA Tryz.prog 158 [.str s,.int .i64 (n : Nat)] S fun r S'=>r = .bool (letF s n) ∧ S' = S:=by
  refine CallA.keep Tryz.func158 c658 (Nat.le_of_ble_eq_true rfl) fun σ hσ=>?_
  simp (disch:=first|omega|(simp only[lenT];omega)) only[a658,evSt,↓eA,eB,evU,seval]
  refine loopA (ι:=Nat) (fun k=>[(0,.str s),(1,.int .i64 (n : Nat)),(5,.int .i64 (k : Nat))]) (fun _=>S) (fun k=>k ≤ s.length ∧ (s.all up) = ((s.drop k).all up)) (fun k=>s.length - k) 0 ⟨Nat.zero_le _,rfl⟩ ?_ rfl ?_
  · simp only[↓eA,eB,evU,seval]
  rintro k ⟨hk,he⟩
  unfold letF
  cases hc : s[k]? with
  | none =>
    have hge : s.length ≤ k:=List.getElem?_eq_none_iff.1 hc
    have hlt : ¬ ((k : Int) < s.length):=by omega
    rw[List.drop_eq_nil_of_le hge] at he
    rw[he]
    by_cases h1 : s.length = n
    · have h1' : (s.length : Int) = n:=by omega
      simp (disch:=first|omega|(simp only[lenT];omega)) only[dF hlt,dT h1',dT h1,List.all_nil,Bool.and_self,evSt,↓eA,eB,evU,seval]
    · have h1' : ¬ (s.length : Int) = n:=by omega
      simp (disch:=first|omega|(simp only[lenT];omega)) only[dF hlt,dF h1',dF h1,Bool.and_false,evSt,↓eA,eB,evU,seval]
  | some c =>
    have hlt':=(List.getElem?_eq_some_iff.1 hc).1
    have hlt : (k : Int) < s.length:=by omega
    have hk1 : (k : Int) + 1 = ((k + 1 : Nat) : Int):=by omega
    rw[all_at hc] at he
    simp (disch:=first|omega|(simp only[lenT];omega)) only[dT hlt,hc,evSt,↓eA,eB,evU,seval]
    refine (rup_A c S).then ?_
    cases h : up c with
    | true =>
      rw[h,Bool.true_and] at he
      simp (disch:=first|omega|(simp only[lenT];omega)) only[wrap_i64,hk1,evSt,↓eA,eB,evU,seval]
      exact ⟨k + 1,⟨by omega,he⟩,by omega,rfl⟩
    | false =>
      rw[h,Bool.false_and] at he
      simp (disch:=first|omega|(simp only[lenT];omega)) only[he,Bool.false_and,evSt,↓eA,eB,evU,seval]
theorem rairport_A (s : Txt) (S : Store) : CallA Tryz.prog 126 [.str s] S fun r S'=>r = .bool (letF s 3) ∧ S' = S:=by
  refine str_len (fun hs=>?_) ⟨_,Tryz.func126,by kernel_rfl,by kernel_rfl⟩
  refine CallA.keep Tryz.func126 c626 (Nat.le_of_ble_eq_true rfl) fun σ hσ=>?_
  have hl:=letters_A s 3 (by unfold maxLen at hs;omega) S
  simp (disch:=first|omega|(simp only[lenT];omega)) only[a626,evSt,↓eA,eB,evU,seval]
  refine hl.then ?_
  simp (disch:=first|omega|(simp only[lenT];omega)) only[evSt,↓eA,eB,evU,seval]
theorem rcountry_A (s : Txt) (S : Store) : CallA Tryz.prog 127 [.str s] S fun r S'=>r = .bool (letF s 2) ∧ S' = S:=by
  refine str_len (fun hs=>?_) ⟨_,Tryz.func127,by kernel_rfl,by kernel_rfl⟩
  refine CallA.keep Tryz.func127 c627 (Nat.le_of_ble_eq_true rfl) fun σ hσ=>?_
  have hl:=letters_A s 2 (by unfold maxLen at hs;omega) S
  simp (disch:=first|omega|(simp only[lenT];omega)) only[a627,evSt,↓eA,eB,evU,seval]
  refine hl.then ?_
  simp (disch:=first|omega|(simp only[lenT];omega)) only[evSt,↓eA,eB,evU,seval]
def offF (n : Int) : Bool:=decide (-840 ≤ n) && decide (n ≤ 840)
theorem roffset_A (n : Int) (S : Store) : CallA Tryz.prog 159 [.int .i64 n] S fun r S'=>r = .bool (offF n) ∧ S' = S:=by
  refine CallA.keep Tryz.func159 c659 (Nat.le_of_ble_eq_true rfl) fun σ hσ=>?_
  unfold offF
  cases h : decide (-840 ≤ n)<;>simp (disch:=first|omega|(simp only[lenT];omega)) only[a659,h,Bool.true_and,Bool.false_and,evSt,↓eA,eB,evU,seval]
theorem rzone_A (off : Int) (sh : List (Int × Int)) (hl : sh.length ≤ 2000000) (S : Store) : CallA Tryz.prog 128 [.agg [.int .i64 off,.sl 2 (sh.map shR)]] S fun r S'=>∃ e : Int,r = .int .i64 e ∧ (e = 0 → sh.length ≤ 256) ∧ S' = S:=by
  refine CallA.withNeat Tryz.func128 c628 fun hn=>?_
  refine CallA.fin Tryz.func128 c628 (Nat.le_of_ble_eq_true rfl) fun σ hσ=>?_
  have hofs:=fun n S=>roffset_A n S
  by_cases h1 : 256 < sh.length
  · have h1' : (256 : Int) < sh.length:=by omega
    simp (disch:=first|omega|(simp only[lenT];omega)) only[a628,dT h1',evSt,↓eA,eB,evU,seval]
    exact ⟨_,S,hn.self,.imm rfl,Nat.le_refl _,4,rfl,fun h=>by omega,rfl⟩
  have h1' : ¬ (256 : Int) < sh.length:=by omega
  simp (disch:=first|omega|(simp only[lenT];omega)) only[a628,dF h1',evSt,↓eA,eB,evU,seval]
  refine (hofs _ _).then ?_
  cases h2 : offF off with
  | false =>
    simp (disch:=first|omega|(simp only[lenT];omega)) only[evSt,↓eA,eB,evU,seval]
    exact ⟨_,S,hn.self,.imm rfl,Nat.le_refl _,2,rfl,fun h=>by omega,rfl⟩
  | true =>
    simp (disch:=first|omega|(simp only[lenT];omega)) only[evSt,↓eA,eB,evU,seval]
    refine loopF (ι:=Nat) (fun k=>[(1,.cptr [.int .i64 off,.sl 2 (sh.map shR)]),(3,.int .i64 (k : Nat))]) (fun _=>S) (fun k=>k ≤ sh.length) (fun k=>sh.length - k) (fun i hi=>by rw[hσ];exact Nat.le_refl _) 0 (Nat.zero_le _) (.inl ⟨?_,rfl⟩) ?_
    · simp only[↓eA,eB,evU,seval]
    intro k hk
    cases hc : sh[k]? with
    | none =>
      have hge : sh.length ≤ k:=List.getElem?_eq_none_iff.1 hc
      have hlt : ¬ ((k : Int) < sh.length):=by omega
      simp (disch:=first|omega|(simp only[lenT];omega)) only[dF hlt,evSt,↓eA,eB,evU,seval]
      exact ⟨_,S,hn.self,.imm rfl,Nat.le_refl _,0,rfl,fun h=>by omega,rfl⟩
    | some s =>
      have hlt':=(List.getElem?_eq_some_iff.1 hc).1
      have hlt : (k : Int) < sh.length:=by omega
      have hk1 : (k : Int) + 1 = ((k + 1 : Nat) : Int):=by omega
      have e1 : IntKind.i64.wrap ((k : Int) - 1) = ((k - 1 : Nat) : Int) ∨ k = 0:=by
        rcases Nat.eq_zero_or_pos k with h | h
        · exact .inr h
        · exact .inl (by rw[wrap_i64 (by omega) (by omega)];omega)
      rcases e1 with e1 | e1
      case' inl =>
        by_cases hk0 : 0 < k
        case' pos =>
          have hs0 : sh[k - 1]? = some (sh[k - 1]'(by omega)):=List.getElem?_eq_getElem _
          generalize sh[k - 1]'(by omega) = s0 at hs0
          have hd3 : decide ((0 : Int) < (k : Nat)) = true:=decide_eq_true (by omega)
          cases hd4 : decide (IntKind.i64.wrap (s.1 - s0.1) < 2880)
        case' neg =>
          have hs0 : sh[k]? = some s:=hc
          have hd3 : decide ((0 : Int) < (k : Nat)) = false:=decide_eq_false (by omega)
          have hd4 : True:=trivial
      case' inr =>
        have hs0 : sh[k]? = some s:=hc
        have hd3 : decide ((0 : Int) < (k : Nat)) = false:=decide_eq_false (by omega)
        clear e1
        have e1 : True:=trivial
        have hd4 : True:=trivial
      all_goals
        cases hd1 : decide (s.1 < 0)<;>cases hd2 : decide (52596000 ≤ s.1)<;>simp (disch:=first|omega|(simp only[lenT];omega)) only[dT hlt,hc,hs0,hd1,hd2,hd3,hd4,e1,shR,evSt,↓eA,eB,evU,seval]
      all_goals first
        | exact ⟨_,S,hn.fgt _,.imm rfl,Nat.le_refl _,13,rfl,fun h=>by omega,rfl⟩
        | (refine (hofs _ _).then ?_
           cases h5 : offF s.2<;>simp (disch:=first|omega|(simp only[lenT];omega)) only[wrap_i64,hk1,evSt,↓eA,eB,evU,seval]
           · exact ⟨_,S,hn.fgt _,.imm rfl,Nat.le_refl _,2,rfl,fun h=>by omega,rfl⟩
           · exact ⟨k + 1,by omega,by omega,back_under (hn.fgt _) (by simp only[↓eA,eB,evU,seval];try rfl) (by simp [V.under,V.allUnder])⟩)
theorem app_accL {S : Store} {n : Nat} {q : TypeId} {sz : Nat} {rows : List (List V)} {r : List V} {K : V → Store → Prop} (hn : n = S.length) (h : rows.length < 100000000) :
    appK q sz (accV n rows) (some (sz,[r])) (S ++ accT q sz rows) K = K (accV n (rows ++ [r])) (S ++ accT q sz (rows ++ [r])):=by
  subst hn
  cases rows with
  | nil =>
    simp only[accV,accT,List.append_nil,List.nil_append]
    rw[app_nil]
    simp [roomA]
  | cons x rows =>
    simp only[accV,accT,List.cons_append]
    rw[app_msl,ob_app0,ob_head,appO_some,se_app0]
    simp only[List.length_cons,List.length_append,List.length_nil,List.set_cons_zero,List.cons_append]
    simp only[List.length_cons] at h
    simp [roomA]
    intro _
    omega
theorem app_acc1 {S : Store} {x : AL.Obj} {n : Nat} {q : TypeId} {sz : Nat} {rows : List (List V)} {r : List V} {K : V → Store → Prop} (hn : n = S.length + 1) (h : rows.length < 100000000) :
    appK q sz (accV n rows) (some (sz,[r])) (S ++ x :: accT q sz rows) K = K (accV n (rows ++ [r])) (S ++ x :: accT q sz (rows ++ [r])):=by
  have:=app_accL (S:=S ++ [x]) (n:=n) (q:=q) (sz:=sz) (rows:=rows) (r:=r) (K:=K) (by simp [hn]) h
  simpa only[List.append_assoc,List.singleton_append] using this
theorem frz_acc1 {S : Store} {x : AL.Obj} {q : TypeId} {sz : Nat} {rows : List (List V)} (hr : ∀ r ∈ rows,r.length = sz ∧ V.allImm r = true) : Frz (S ++ x :: accT q sz rows) S (accV (S.length + 1) rows) (.sl sz rows):=by
  cases rows with
  | nil=>exact .nil
  | cons y rows=>exact .sl (t:=q) (by omega) (by rw[ob_app,ob_cons,accT,ob_head]) (by simp) hr
theorem share_ix {P : Program} {N : Nat} {σ : Base} {G : Prop} {ι : Type} (H : ι → Prop) (E0 : ι → Env) (S0 : ι → Store) (b : ACode) (Q : Exit → Env → Store → Prop) (k2 : (∀ i,H i → LoopA P N σ b Q (E0 i) (S0 i)) → G) (k1 : ∀ i,H i → LoopA P N σ b Q (E0 i) (S0 i)) : G:=k2 k1
def aptEs (es : List Int) (tw mv : Bool) (e : Int) : List Int:=es ++ (if tw then [6] else []) ++ (if mv then [8] else []) ++ (if e = 0 then [] else [e])
theorem aptEs_len (es : List Int) (tw mv : Bool) (e : Int) : (aptEs es tw mv e).length ≤ es.length + 3:=by
  unfold aptEs
  by_cases h : e = 0<;>cases tw<;>cases mv<;>simp [h]
set_option maxHeartbeats 4000000 in
set_option maxRecDepth 10000 in
theorem rapt_A (p : Pls) (hp : p.1.length ≤ 2000000) (i : Nat) (a : Apt) (ha : p.1[i]? = some a) (hs : a.sh.length ≤ 2000000) (S : Store) : CallA Tryz.prog 85 [plV p,.int .i64 (i : Nat)] S fun r S'=>∃ es : List Int,r = .sl 1 (es.map inR) ∧ (es = [] → a.sh.length ≤ 256) ∧ es.length ≤ 4 ∧ S' = S:=by
  refine CallA.withNeat Tryz.func85 c585 fun hn=>?_
  refine CallA.fin Tryz.func85 c585 (Nat.le_of_ble_eq_true rfl) fun σ hσ=>?_
  have hil:=(List.getElem?_eq_some_iff.1 ha).1
  have c1:=fun S=>rairport_A a.code S
  have c2:=fun S=>rairport_A a.city S
  have c3:=fun S=>rcountry_A a.cty S
  have cz:=fun S=>rzone_A a.off a.sh hs S
  simp (disch:=first|omega|(simp only[lenT];omega)) only[a585,plV,ha,aptR,evSt,↓eA,eB,evU,seval]
  have r1 : (1 ≤ roomA) = True:=by simp [roomA]
  apply share_ix (P:=Tryz.prog) (N:=93) (σ:=σ) (fun es : List Int=>es.length ≤ 1) (fun es=>[(2,.cptr [.sl 5 (p.1.map aptR),.sl 3 (p.2.map dstR)]),(1,.int .i64 (i : Nat)),(5,accV (S.length + 1) (es.map inR)),(6,.ptr S.length 0 0 0),(7,.bool false),(8,.bool false),(9,.int .i64 0)]) (fun es=>S ++ ⟨0,some (.arr 134 5 [aptR a])⟩ :: accT 34 1 (es.map inR))
  · intro key
    refine (c1 _).then ?_
    cases b1 : letF a.code 3<;>simp (disch:=first|omega|(simp only[lenT];omega)) only[r1,true_and,evSt,↓eA,eB,evU,seval]
    case' true=>refine (c2 _).then ?_
    case' true=>cases b2 : letF a.city 3<;>simp (disch:=first|omega|(simp only[lenT];omega)) only[r1,true_and,evSt,↓eA,eB,evU,seval]
    case' true.true=>refine (c3 _).then ?_
    case' true.true=>cases b3 : letF a.cty 2<;>simp (disch:=first|omega|(simp only[lenT];omega)) only[r1,true_and,evSt,↓eA,eB,evU,seval]
    case' true.true.true=>exact (key [] (by simp)).sub (by simp only[List.map_nil,accV_nil,↓eA,eB,evU,seval])
    all_goals exact (key [5] (by simp)).sub (by simp only[List.map_cons,List.map_nil,inR,accV,List.length_nil,↓eA,eB,evU,seval])
  · intro es hes
    refine loopA (ι:=Nat × Bool × Bool) (fun k=>[(2,.cptr [.sl 5 (p.1.map aptR),.sl 3 (p.2.map dstR)]),(1,.int .i64 (i : Nat)),(5,accV (S.length + 1) (es.map inR)),(6,.ptr S.length 0 0 0),(7,.bool k.2.1),(8,.bool k.2.2),(9,.int .i64 (k.1 : Nat))]) (fun _=>S ++ ⟨0,some (.arr 134 5 [aptR a])⟩ :: accT 34 1 (es.map inR)) (fun k=>k.1 ≤ i) (fun k=>i - k.1) (0,false,false) (Nat.zero_le _) ?_ rfl ?_
    · simp only[↓eA,eB,evU,seval]
      try rfl
    rintro ⟨k,tw,mv⟩ hk
    simp only at hk ⊢
    by_cases hki : k < i
    · have hlt : (k : Int) < i:=by omega
      have hk1 : (k : Int) + 1 = ((k + 1 : Nat) : Int):=by omega
      obtain ⟨q,hq⟩ : ∃ q,p.1[k]? = some q:=⟨_,List.getElem?_eq_getElem (by omega)⟩
      cases tw<;>cases mv<;>cases d1 : decide (q.code = a.code)<;>cases d2 : decide (q.city = a.city)<;>cases d3 : decide (q.cty = a.cty)<;>simp (disch:=first|omega|(simp only[lenT];omega)) only[dT hlt,hq,d1,d2,d3,aptR,wrap_i64,hk1,evSt,↓eA,eB,evU,seval]
      all_goals exact ⟨(k + 1,_,_),by simp only;omega,by simp only;omega,rfl,rfl,rfl⟩
    · have hlt : ¬ (k : Int) < i:=by omega
      have b0 : (es.map inR).length < 100000000:=by simp;omega
      have b1 : (es.map inR ++ [[V.int .i64 6]]).length < 100000000:=by simp;omega
      have b2 : (es.map inR ++ [[V.int .i64 8]]).length < 100000000:=by simp;omega
      have b3 : (es.map inR ++ [[V.int .i64 6]] ++ [[V.int .i64 8]]).length < 100000000:=by simp;omega
      obtain ⟨tw0,ht1⟩ : ∃ t,t = tw:=⟨_,rfl⟩
      obtain ⟨mv0,hm1⟩ : ∃ t,t = mv:=⟨_,rfl⟩
      cases tw<;>cases mv<;>simp (disch:=first|omega|(simp only[lenT];omega)) only[dF hlt,app_acc1 rfl b0,app_acc1 rfl b1,app_acc1 rfl b2,app_acc1 rfl b3,aptR,evSt,↓eA,eB,evU,seval]
      all_goals
        refine (cz _).mono ?_
        rintro _ _ ⟨e,rfl,he,rfl⟩
        by_cases h0 : e = 0
        case' pos =>
          have hz : aptEs es tw0 mv0 e = aptEs es tw0 mv0 0:=by rw[h0]
          simp (disch:=first|omega|(simp only[lenT];omega)) only[dT h0,evSt,↓eA,eB,evU,seval]
        case' neg =>
          have hz : aptEs es tw0 mv0 e = aptEs es tw0 mv0 0 ++ [e]:=by unfold aptEs;rw[if_neg h0];simp
          simp (disch:=first|omega|(simp only[lenT];omega)) only[dF h0,app_acc1 rfl b0,app_acc1 rfl b1,app_acc1 rfl b2,app_acc1 rfl b3,evSt,↓eA,eB,evU,seval]
      all_goals
        have hin:=inR_imm (aptEs es tw0 mv0 e)
        have hle : (aptEs es tw0 mv0 e).length ≤ 4:=by have:=aptEs_len es tw0 mv0 e;omega
        have hzn : aptEs es tw0 mv0 e = [] → e = 0:=fun h=>by
          unfold aptEs at h
          have h:=(List.append_eq_nil_iff.1 h).2
          by_cases g : e = 0
          · exact g
          · rw[if_neg g] at h;cases h
        refine ⟨.sl 1 ((aptEs es tw0 mv0 e).map inR),S,hn.fgt _,?_,Nat.le_refl _,_,rfl,fun h=>he (hzn h),hle,rfl⟩
        rw[hz] at hin ⊢
        simp only[aptEs,ht1,hm1,if_true,if_false,Bool.false_eq_true,List.append_nil,List.map_append,List.map_cons,List.map_nil,inR] at hin ⊢
        exact frz_acc1 hin
end Go.Proofs.YtiihkfjbllpiaaaGreatDoor
