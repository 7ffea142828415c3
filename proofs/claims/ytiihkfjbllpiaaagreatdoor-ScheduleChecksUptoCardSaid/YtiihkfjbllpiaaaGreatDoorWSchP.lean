/- Numbers below 100; codes of carriers and equipment. What a flight's legs are looked at for. Legs in order of time. What is wrong with a leg. -/
import Derived.Test.YtiihkfjbllpiaaaGreatDoorWScaC
import Derived.Test.YtiihkfjbllpiaaaGreatDoorWSchA
namespace Go.Proofs.YtiihkfjbllpiaaaGreatDoor
open Go Go.AL
set_option linter.unusedSectionVars false
variable [Go.AL.Mode] [Go.AL.LooseM]
set_option linter.unusedSimpArgs false
set_option linter.unusedVariables false
def decB (n : Nat) : Txt:=if n < 10 then [UInt8.ofNat (48 + n)] else [UInt8.ofNat (48 + n / 10),UInt8.ofNat (48 + n % 10)]
def dg36 : Txt:=[48,49,50,51,52,53,54,55,56,57,97,98,99,100,101,102,103,104,105,106,107,108,109,110,111,112,113,114,115,116,117,118,119,120,121,122]
def dg10 : Txt:=[48,49,50,51,52,53,54,55,56,57]
def dg100 : Txt:=(List.range 100).flatMap fun n=>[UInt8.ofNat (48 + n / 10),UInt8.ofNat (48 + n % 10)]
theorem dg36_at {n : Nat} (h : n < 10) : (dg36.drop n).take 1 = decB n:=by
  have : ∀ n : Fin 10,(dg36.drop n.val).take 1 = decB n.val:=by decide +kernel
  exact this ⟨n,h⟩
theorem dg10_at {n : Nat} (h : n < 10) : (dg10.drop n).take 1 = decB n:=by
  have : ∀ n : Fin 10,(dg10.drop n.val).take 1 = decB n.val:=by decide +kernel
  exact this ⟨n,h⟩
theorem dg100_at {n : Nat} (h : n < 100) (h2 : ¬ n < 10) : (dg100.drop (2 * n)).take 2 = decB n:=by
  have : ∀ n : Fin 100,¬ n.val < 10 → (dg100.drop (2 * n.val)).take 2 = decB n.val:=by decide +kernel
  exact this ⟨n,h⟩ h2
theorem decB_len (n : Nat) : (decB n).length ≤ 2:=by unfold decB;split<;>simp
set_option maxRecDepth 100000 in
theorem small_A (n : Nat) (S : Store) (hn : n < 100) : CallA Tryz.prog 160 [.int .i64 n] S fun r S'=>r = .str (decB n) ∧ S' = S:=by
  refine CallA.keep Tryz.func160 c660 (Nat.le_of_ble_eq_true rfl) fun σ hσ=>?_
  by_cases h : n < 10
  · have h' : (n : Int) < 10:=by omega
    have hc : (n : Int) + 1 = ((n + 1 : Nat) : Int):=by omega
    have hs : cutS [48,49,50,51,52,53,54,55,56,57,97,98,99,100,101,102,103,104,105,106,107,108,109,110,111,112,113,114,115,116,117,118,119,120,121,122] (some (n : Int)) (some ((n + 1 : Nat) : Int)) = some (.str (decB n)):=by
      rw[cutS_some,if_pos ⟨by omega,by omega,by simp only[List.length_cons,List.length_nil];omega⟩,← dg36_at h,Int.toNat_natCast,Int.toNat_natCast,Nat.add_sub_cancel_left]
      rfl
    simp (disch:=omega) only[a660,h',hc,hs,wrap_i64,decide_true,↓eA,eB,evU,seval]
  · have h' : ¬ (n : Int) < 10:=by omega
    have hc : (n : Int) * 2 = ((2 * n : Nat) : Int):=by omega
    have hc2 : ((2 * n : Nat) : Int) + 2 = ((2 * n + 2 : Nat) : Int):=by omega
    have hs : cutS dg100 (some ((2 * n : Nat) : Int)) (some ((2 * n + 2 : Nat) : Int)) = some (.str (decB n)):=by
      rw [cutS_some, if_pos ⟨by omega, by omega, by have : dg100.length = 200 := by decide +kernel
                                                    rw[this];omega⟩,← dg100_at hn h,Int.toNat_natCast,Int.toNat_natCast,Nat.add_sub_cancel_left]
    have hl : ([48,48,48,49,48,50,48,51,48,52,48,53,48,54,48,55,48,56,48,57,49,48,49,49,49,50,49,51,49,52,49,53,49,54,49,55,49,56,49,57,50,48,50,49,50,50,50,51,50,52,50,53,50,54,50,55,50,56,50,57,51,48,51,49,51,50,51,51,51,52,51,53,51,54,51,55,51,56,51,57,52,48,52,49,52,50,52,51,52,52,52,53,52,54,52,55,52,56,52,57,53,48,53,49,53,50,53,51,53,52,53,53,53,54,53,55,53,56,53,57,54,48,54,49,54,50,54,51,54,52,54,53,54,54,54,55,54,56,54,57,55,48,55,49,55,50,55,51,55,52,55,53,55,54,55,55,55,56,55,57,56,48,56,49,56,50,56,51,56,52,56,53,56,54,56,55,56,56,56,57,57,48,57,49,57,50,57,51,57,52,57,53,57,54,57,55,57,56,57,57] : Txt) = dg100:=by decide +kernel
    simp only[a660,hl]
    simp (disch:=omega) only[h',hc,hc2,hs,wrap_i64,decide_false,↓eA,eB,evU,seval]
theorem formatInt_A (n : Nat) (S : Store) (hn : n < 100) : CallA Tryz.prog 131 [.int .i64 n,.int .i64 10] S fun r S'=>r = .str (decB n) ∧ S' = S:=by
  refine CallA.keep Tryz.func131 c631 (Nat.le_of_ble_eq_true rfl) fun σ hσ=>?_
  have h1 : (0 : Int) ≤ n:=by omega
  have h2 : (n : Int) < 100:=by omega
  simp only[a631,h1,h2,decide_true,↓eA,eB,evU,seval]
  refine (small_A n S hn).then ?_
  simp only[↓eA,eB,evU,seval]
theorem itoaI_A (n : Nat) (S : Store) (hn : n < 100) : CallA Tryz.prog 87 [.int .i64 n] S fun r S'=>r = .str (decB n) ∧ S' = S:=by
  refine CallA.keep Tryz.func87 c587 (Nat.le_of_ble_eq_true rfl) fun σ hσ=>?_
  simp only[a587,↓eA,eB,evU,seval]
  refine (formatInt_A n S hn).then ?_
  simp only[↓eA,eB,evU,seval]
theorem itoa_A (n : Nat) (S : Store) (hn : n < 100) : CallA Tryz.prog 45 [.int .i64 n] S fun r S'=>r = .str (decB n) ∧ S' = S:=by
  refine CallA.keep Tryz.func45 c545 (Nat.le_of_ble_eq_true rfl) fun σ hσ=>?_
  simp only[a545,↓eA,eB,evU,seval]
  refine (itoaI_A n S hn).then ?_
  simp only[↓eA,eB,evU,seval]
theorem digit_A (n : Nat) (S : Store) (hn : n < 10) : CallA Tryz.prog 95 [.int .u64 n] S fun r S'=>r = .str (decB n) ∧ S' = S:=by
  refine CallA.keep Tryz.func95 c595 (Nat.le_of_ble_eq_true rfl) fun σ hσ=>?_
  have h' : (n : Int) < 10:=by omega
  have hc : (n : Int) + 1 = ((n + 1 : Nat) : Int):=by omega
  have hs : cutS [48,49,50,51,52,53,54,55,56,57] (some (n : Int)) (some ((n + 1 : Nat) : Int)) = some (.str (decB n)):=by
    rw[cutS_some,if_pos ⟨by omega,by omega,by simp only[List.length_cons,List.length_nil];omega⟩,← dg10_at hn,Int.toNat_natCast,Int.toNat_natCast,Nat.add_sub_cancel_left]
    rfl
  simp (disch:=omega) only[a595,h',hc,hs,wrap_u64,decide_true,↓eA,eB,evU,seval]
theorem digits_A (n : Nat) (S : Store) (hn : n < 100) : CallA Tryz.prog 95 [.int .u64 n] S fun r S'=>r = .str (decB n) ∧ S' = S:=by
  by_cases h : n < 10
  · exact digit_A n S h
  refine CallA.keep Tryz.func95 c595 (Nat.le_of_ble_eq_true rfl) fun σ hσ=>?_
  have h' : ¬ (n : Int) < 10:=by omega
  have e1 : (n : Int).tdiv 10 = ((n / 10 : Nat) : Int):=by rw[Int.tdiv_eq_ediv_of_nonneg (by omega)];omega
  have e2 : (n : Int).tmod 10 = ((n % 10 : Nat) : Int):=by rw[Int.tmod_eq_emod_of_nonneg (by omega)];omega
  have hc : ((n % 10 : Nat) : Int) + 1 = ((n % 10 + 1 : Nat) : Int):=by omega
  have hs : cutS [48,49,50,51,52,53,54,55,56,57] (some ((n % 10 : Nat) : Int)) (some ((n % 10 + 1 : Nat) : Int)) = some (.str (decB (n % 10))):=by
    have h10 : n % 10 < 10:=by omega
    rw[cutS_some,if_pos ⟨by omega,by omega,by simp only[List.length_cons,List.length_nil];omega⟩,← dg10_at h10,Int.toNat_natCast,Int.toNat_natCast,Nat.add_sub_cancel_left]
    rfl
  have ha : binV .add (.str (decB (n / 10))) (.str (decB (n % 10))) = some (.str (decB (n / 10) ++ decB (n % 10))):=bs_add (by have:=decB_len (n / 10);have:=decB_len (n % 10);unfold maxLen;omega)
  have he : decB n = decB (n / 10) ++ decB (n % 10):=by
    have g1 : n / 10 < 10:=by omega
    have g2 : n % 10 < 10:=by omega
    simp only[decB,if_neg h,if_pos g1,if_pos g2,List.singleton_append]
  simp (disch:=omega) only[a595,h',e1,e2,hc,hs,wrap_u64,decide_false,↓eA,eB,evU,seval]
  refine (digit_A (n / 10) S (by omega)).then ?_
  simp (disch:=omega) only[h',e1,e2,hc,hs,he,ha,wrap_u64,decide_false,↓eA,eB,evU,seval]
theorem decimal_A (n : Nat) (S : Store) (hn : n < 100) : CallA Tryz.prog 50 [.int .i64 n] S fun r S'=>r = .str (decB n) ∧ S' = S:=by
  refine CallA.keep Tryz.func50 c550 (Nat.le_of_ble_eq_true rfl) fun σ hσ=>?_
  have h' : ¬ (n : Int) < 0:=by omega
  simp (disch:=omega) only[a550,h',wrap_u64,decide_false,↓eA,eB,evU,seval]
  refine (digits_A n S hn).then ?_
  simp only[↓eA,eB,evU,seval]
theorem tdecimal_A (n : Nat) (S : Store) (hn : n < 100) : CallA Tryz.prog 78 [.int .i64 n] S fun r S'=>r = .str (decB n) ∧ S' = S:=by
  refine CallA.keep Tryz.func78 c578 (Nat.le_of_ble_eq_true rfl) fun σ hσ=>?_
  simp only[a578,↓eA,eB,evU,seval]
  refine (itoa_A n S hn).then ?_
  simp only[↓eA,eB,evU,seval]
theorem up_A (c : UInt8) (S : Store) : CallA Tryz.prog 165 [.int .u8 c.toNat] S fun r S'=>r = .bool (up c) ∧ S' = S:=by
  refine CallA.keep Tryz.func165 c665 (Nat.le_of_ble_eq_true rfl) fun σ hσ=>?_
  by_cases h1 : (65 : Int) ≤ c.toNat
  · by_cases h2 : (c.toNat : Int) ≤ 90
    · have : up c = true:=by unfold up;exact decide_eq_true ⟨by omega,by omega⟩
      simp only[a665,this,dT h1,dT h2,↓eA,eB,evU,seval]
    · have : up c = false:=by unfold up;exact decide_eq_false (fun h=>by omega)
      simp only[a665,this,dT h1,dF h2,↓eA,eB,evU,seval]
  · have : up c = false:=by unfold up;exact decide_eq_false (fun h=>by omega)
    simp only[a665,this,dF h1,↓eA,eB,evU,seval]
theorem dig_A (c : UInt8) (S : Store) : CallA Tryz.prog 134 [.int .u8 c.toNat] S fun r S'=>r = .bool (dig c) ∧ S' = S:=by
  refine CallA.keep Tryz.func134 c634 (Nat.le_of_ble_eq_true rfl) fun σ hσ=>?_
  by_cases h1 : (48 : Int) ≤ c.toNat
  · by_cases h2 : (c.toNat : Int) ≤ 57
    · have : dig c = true:=by unfold dig;exact decide_eq_true ⟨by omega,by omega⟩
      simp only[a634,this,dT h1,dT h2,↓eA,eB,evU,seval]
    · have : dig c = false:=by unfold dig;exact decide_eq_false (fun h=>by omega)
      simp only[a634,this,dT h1,dF h2,↓eA,eB,evU,seval]
  · have : dig c = false:=by unfold dig;exact decide_eq_false (fun h=>by omega)
    simp only[a634,this,dF h1,↓eA,eB,evU,seval]
theorem rup_A (c : UInt8) (S : Store) : CallA Tryz.prog 141 [.int .u8 c.toNat] S fun r S'=>r = .bool (up c) ∧ S' = S:=by
  refine CallA.keep Tryz.func141 c641 (Nat.le_of_ble_eq_true rfl) fun σ hσ=>?_
  by_cases h1 : (65 : Int) ≤ c.toNat
  · by_cases h2 : (c.toNat : Int) ≤ 90
    · have : up c = true:=by unfold up;exact decide_eq_true ⟨by omega,by omega⟩
      simp only[a641,this,dT h1,dT h2,↓eA,eB,evU,seval]
    · have : up c = false:=by unfold up;exact decide_eq_false (fun h=>by omega)
      simp only[a641,this,dT h1,dF h2,↓eA,eB,evU,seval]
  · have : up c = false:=by unfold up;exact decide_eq_false (fun h=>by omega)
    simp only[a641,this,dF h1,↓eA,eB,evU,seval]
theorem rdig_A (c : UInt8) (S : Store) : CallA Tryz.prog 142 [.int .u8 c.toNat] S fun r S'=>r = .bool (dig c) ∧ S' = S:=by
  refine CallA.keep Tryz.func142 c642 (Nat.le_of_ble_eq_true rfl) fun σ hσ=>?_
  by_cases h1 : (48 : Int) ≤ c.toNat
  · by_cases h2 : (c.toNat : Int) ≤ 57
    · have : dig c = true:=by unfold dig;exact decide_eq_true ⟨by omega,by omega⟩
      simp only[a642,this,dT h1,dT h2,↓eA,eB,evU,seval]
    · have : dig c = false:=by unfold dig;exact decide_eq_false (fun h=>by omega)
      simp only[a642,this,dT h1,dF h2,↓eA,eB,evU,seval]
  · have : dig c = false:=by unfold dig;exact decide_eq_false (fun h=>by omega)
    simp only[a642,this,dF h1,↓eA,eB,evU,seval]
theorem code1_A (c : UInt8) (S : Store) : CallA Tryz.prog 164 [.int .u8 c.toNat] S fun r S'=>r = .bool (up c || dig c) ∧ S' = S:=by
  refine CallA.keep Tryz.func164 c664 (Nat.le_of_ble_eq_true rfl) fun σ hσ=>?_
  simp only[a664,↓eA,eB,evU,seval]
  refine (up_A c S).then ?_
  cases h : up c with
  | true=>simp only[Bool.true_or,↓eA,eB,evU,seval]
  | false =>
    simp only[↓eA,eB,evU,seval]
    refine (dig_A c S).then ?_
    simp only[Bool.false_or,↓eA,eB,evU,seval]
theorem all_at {l : Txt} {q : UInt8 → Bool} {k : Nat} {c : UInt8} (hc : l[k]? = some c) : (l.drop k).all q = (q c && (l.drop (k + 1)).all q):=by
  have e : l.drop k = c :: l.drop (k + 1):=by
    obtain ⟨hlt,rfl⟩:=List.getElem?_eq_some_iff.1 hc
    exact List.drop_eq_getElem_cons hlt
  rw[e,List.all_cons]
theorem str_len {f : FuncId} {s : Txt} {rest : List V} {S : Store} {R : V → Store → Prop} (h : s.length ≤ maxLen → CallA Tryz.prog f (.str s :: rest) S R) (h0 : callable Tryz.prog f) : CallA Tryz.prog f (.str s :: rest) S R :=
  ⟨h0,fun ρ w us hi hv=>by
    obtain ⟨u,_,hu⟩:=hv.2 0 _ rfl
    cases hu with
    | str h1 h2=>exact (h (by rw[← h1];simpa using h2)).2 ρ w us hi hv⟩
theorem every_A (s : Txt) (q : UInt8 → Bool) (g : FuncId) (hs : s.length ≤ 9223372036854775807) (hq : ∀ c S,CallA Tryz.prog g [.int .u8 c.toNat] S fun r S'=>r = .bool (q c) ∧ S' = S) (S : Store) :
    CallA Tryz.prog 133 [.str s,.func g [] []] S fun r S'=>r = .bool (s.all q) ∧ S' = S:=by
  refine CallA.keep Tryz.func133 c633 (Nat.le_of_ble_eq_true rfl) fun σ hσ=>?_
  simp (disch:=first|omega|(simp only[lenT];omega)) only[a633,evSt,↓eA,eB,evU,seval]
  refine loopA (ι:=Nat) (fun k=>[(0,.str s),(1,.func g [] []),(7,.int .i64 s.length),(8,.int .i64 (k : Nat))]) (fun _=>S) (fun k=>k ≤ s.length ∧ s.all q = (s.drop k).all q) (fun k=>s.length - k) 0 ⟨Nat.zero_le _,rfl⟩ ?_ rfl ?_
  · simp only[↓eA,eB,evU,seval]
  rintro k ⟨hk,he⟩
  cases hc : s[k]? with
  | none =>
    have hge : s.length ≤ k:=List.getElem?_eq_none_iff.1 hc
    have hlt : ¬ ((k : Int) < s.length):=by omega
    rw[List.drop_eq_nil_of_le hge] at he
    simp (disch:=first|omega|(simp only[lenT];omega)) only[he,dF hlt,List.all_nil,evSt,↓eA,eB,evU,seval]
  | some c =>
    have hlt':=(List.getElem?_eq_some_iff.1 hc).1
    have hlt : (k : Int) < s.length:=by omega
    have hk1 : (k : Int) + 1 = ((k + 1 : Nat) : Int):=by omega
    rw[all_at hc] at he
    simp (disch:=first|omega|(simp only[lenT];omega)) only[dT hlt,hc,evSt,↓eA,eB,evU,seval]
    refine (hq c S).then ?_
    cases h : q c with
    | true =>
      rw[h,Bool.true_and] at he
      simp (disch:=first|omega|(simp only[lenT];omega)) only[wrap_i64,hk1,evSt,↓eA,eB,evU,seval]
      exact ⟨k + 1,⟨by omega,he⟩,by omega,rfl⟩
    | false =>
      rw[h,Bool.false_and] at he
      simp (disch:=first|omega|(simp only[lenT];omega)) only[he,evSt,↓eA,eB,evU,seval]
theorem code_A (s : Txt) (a b : Nat) (hs : s.length ≤ 9223372036854775807) (S : Store) : CallA Tryz.prog 132 [.str s,.int .i64 (a : Nat),.int .i64 (b : Nat)] S fun r S'=>r = .bool (codeF s a b) ∧ S' = S:=by
  refine CallA.keep Tryz.func132 c632 (Nat.le_of_ble_eq_true rfl) fun σ hσ=>?_
  unfold codeF
  by_cases h1 : a ≤ s.length
  · have h1' : (a : Int) ≤ s.length:=by omega
    by_cases h2 : s.length ≤ b
    · have h2' : (s.length : Int) ≤ b:=by omega
      simp (disch:=first|omega|(simp only[lenT];omega)) only[a632,dT h1',dT h2',h1,h2,and_self,decide_true,Bool.true_and,evSt,↓eA,eB,evU,seval]
      refine (every_A s (fun c=>up c || dig c) 164 hs code1_A S).then ?_
      simp (disch:=first|omega|(simp only[lenT];omega)) only[evSt,↓eA,eB,evU,seval]
    · have h2' : ¬ (s.length : Int) ≤ b:=by omega
      simp (disch:=first|omega|(simp only[lenT];omega)) only[a632,dT h1',dF h2',h1,h2,and_false,decide_false,Bool.false_and,evSt,↓eA,eB,evU,seval]
  · have h1' : ¬ (a : Int) ≤ s.length:=by omega
    simp (disch:=first|omega|(simp only[lenT];omega)) only[a632,dF h1',h1,false_and,decide_false,Bool.false_and,evSt,↓eA,eB,evU,seval]
theorem carrier_A (s : Txt) (hs : s.length ≤ 9223372036854775807) (S : Store) : CallA Tryz.prog 89 [.str s] S fun r S'=>r = .bool (carF s) ∧ S' = S:=by
  refine CallA.keep Tryz.func89 c589 (Nat.le_of_ble_eq_true rfl) fun σ hσ=>?_
  unfold carF
  simp (disch:=first|omega|(simp only[lenT];omega)) only[a589,evSt,↓eA,eB,evU,seval]
  refine (code_A s 2 2 hs S).then ?_
  cases h : codeF s 2 2 with
  | true =>
    simp (disch:=first|omega|(simp only[lenT];omega)) only[evSt,↓eA,eB,evU,seval]
    refine (every_A s dig 134 hs dig_A S).then ?_
    simp (disch:=first|omega|(simp only[lenT];omega)) only[Bool.true_and,evSt,↓eA,eB,evU,seval]
  | false=>simp (disch:=first|omega|(simp only[lenT];omega)) only[Bool.false_and,evSt,↓eA,eB,evU,seval]
theorem rcode_A (s : Txt) (a b : Nat) (hs : s.length ≤ 9223372036854775807) (S : Store) : CallA Tryz.prog 97 [.str s,.int .i64 (a : Nat),.int .i64 (b : Nat)] S fun r S'=>r = .bool (codeF s a b) ∧ S' = S:=by
  refine CallA.keep Tryz.func97 c597 (Nat.le_of_ble_eq_true rfl) fun σ hσ=>?_
  simp (disch:=first|omega|(simp only[lenT];omega)) only[a597,evSt,↓eA,eB,evU,seval]
  refine loopA (ι:=Nat) (fun k=>[(0,.str s),(1,.int .i64 (a : Nat)),(2,.int .i64 (b : Nat)),(7,.int .i64 (k : Nat))]) (fun _=>S) (fun k=>k ≤ s.length ∧ (s.all fun c=>up c || dig c) = ((s.drop k).all fun c=>up c || dig c)) (fun k=>s.length - k) 0 ⟨Nat.zero_le _,rfl⟩ ?_ rfl ?_
  · simp only[↓eA,eB,evU,seval]
  rintro k ⟨hk,he⟩
  cases hc : s[k]? with
  | none =>
    have hge : s.length ≤ k:=List.getElem?_eq_none_iff.1 hc
    have hlt : ¬ ((k : Int) < s.length):=by omega
    rw[List.drop_eq_nil_of_le hge] at he
    unfold codeF
    rw[he]
    by_cases h1 : a ≤ s.length
    · have h1' : (a : Int) ≤ s.length:=by omega
      by_cases h2 : s.length ≤ b
      · have h2' : (s.length : Int) ≤ b:=by omega
        simp (disch:=first|omega|(simp only[lenT];omega)) only[dF hlt,dT h1',dT h2',h1,h2,and_self,decide_true,List.all_nil,Bool.and_self,evSt,↓eA,eB,evU,seval]
      · have h2' : ¬ (s.length : Int) ≤ b:=by omega
        simp (disch:=first|omega|(simp only[lenT];omega)) only[dF hlt,dT h1',dF h2',h1,h2,and_false,decide_false,Bool.false_and,evSt,↓eA,eB,evU,seval]
    · have h1' : ¬ (a : Int) ≤ s.length:=by omega
      simp (disch:=first|omega|(simp only[lenT];omega)) only[dF hlt,dF h1',h1,false_and,decide_false,Bool.false_and,evSt,↓eA,eB,evU,seval]
  | some c =>
    have hlt':=(List.getElem?_eq_some_iff.1 hc).1
    have hlt : (k : Int) < s.length:=by omega
    have hk1 : (k : Int) + 1 = ((k + 1 : Nat) : Int):=by omega
    rw[all_at hc] at he
    simp (disch:=first|omega|(simp only[lenT];omega)) only[dT hlt,hc,evSt,↓eA,eB,evU,seval]
    refine (rup_A c S).then ?_
    cases h : up c with
    | true =>
      rw[h,Bool.true_or,Bool.true_and] at he
      simp (disch:=first|omega|(simp only[lenT];omega)) only[wrap_i64,hk1,evSt,↓eA,eB,evU,seval]
      exact ⟨k + 1,⟨by omega,he⟩,by omega,rfl⟩
    | false =>
      simp (disch:=first|omega|(simp only[lenT];omega)) only[hc,evSt,↓eA,eB,evU,seval]
      refine (rdig_A c S).then ?_
      cases h2 : dig c with
      | true =>
        rw[h,h2,Bool.or_true,Bool.true_and] at he
        simp (disch:=first|omega|(simp only[lenT];omega)) only[wrap_i64,hk1,evSt,↓eA,eB,evU,seval]
        exact ⟨k + 1,⟨by omega,he⟩,by omega,rfl⟩
      | false =>
        rw[h,h2,Bool.or_self,Bool.false_and] at he
        unfold codeF
        simp (disch:=first|omega|(simp only[lenT];omega)) only[he,Bool.and_false,evSt,↓eA,eB,evU,seval]
theorem car_two {a b : UInt8} (h : codeF [a,b] 2 2 = true) : (!([a,b] : Txt).all dig) = (up a || up b):=by
  have key : ∀ c : UInt8,(up c || dig c) = true → dig c = !up c:=fun c hc=>by
    cases hu : up c with
    | false=>rw[hu,Bool.false_or] at hc;rw[hc];rfl
    | true =>
      have h1:=of_decide_eq_true hu
      have : dig c = false:=decide_eq_false (fun h=>by omega)
      rw[this];rfl
  simp only[codeF,List.length_cons,List.length_nil,List.all_cons,List.all_nil,Bool.and_true,Bool.and_eq_true] at h
  rw[List.all_cons,List.all_cons,List.all_nil,Bool.and_true,key a h.2.1,key b h.2.2]
  cases up a<;>cases up b<;>rfl
theorem rcarrier_A (s : Txt) (hs : s.length ≤ 9223372036854775807) (S : Store) : CallA Tryz.prog 120 [.str s] S fun r S'=>r = .bool (carF s) ∧ S' = S:=by
  refine CallA.keep Tryz.func120 c620 (Nat.le_of_ble_eq_true rfl) fun σ hσ=>?_
  unfold carF
  simp (disch:=first|omega|(simp only[lenT];omega)) only[a620,evSt,↓eA,eB,evU,seval]
  refine (rcode_A s 2 2 hs S).then ?_
  cases h : codeF s 2 2 with
  | true =>
    obtain ⟨a,b,rfl⟩ : ∃ a b,s = [a,b]:=by
      have : s.length = 2:=by
        simp only[codeF,Bool.and_eq_true,decide_eq_true_eq] at h
        omega
      match s,this with
      | [a,b],_=>exact ⟨a,b,rfl⟩
    rw[car_two h]
    simp (disch:=first|omega|(simp only[lenT];omega)) only[List.getElem?_cons_zero,evSt,↓eA,eB,evU,seval]
    refine (rup_A a S).then ?_
    cases ha : up a with
    | true=>simp (disch:=first|omega|(simp only[lenT];omega)) only[Bool.true_or,Bool.and_self,evSt,↓eA,eB,evU,seval]
    | false =>
      simp (disch:=first|omega|(simp only[lenT];omega)) only[List.getElem?_cons_zero,List.getElem?_cons_succ,evSt,↓eA,eB,evU,seval]
      refine (rup_A b S).then ?_
      cases hb : up b<;>simp (disch:=first|omega|(simp only[lenT];omega)) only[Bool.false_or,Bool.and_self,Bool.true_and,evSt,↓eA,eB,evU,seval]
  | false=>simp (disch:=first|omega|(simp only[lenT];omega)) only[Bool.false_and,evSt,↓eA,eB,evU,seval]
theorem codeT_A (s : Txt) (a b : Nat) (S : Store) : CallA Tryz.prog 132 [.str s,.int .i64 (a : Nat),.int .i64 (b : Nat)] S fun r S'=>r = .bool (codeF s a b) ∧ S' = S :=
  str_len (fun h=>code_A s a b (by unfold maxLen at h;omega) S) ⟨Tryz.f132,Tryz.func132,by kernel_rfl,by kernel_rfl⟩
theorem carrierT_A (s : Txt) (S : Store) : CallA Tryz.prog 89 [.str s] S fun r S'=>r = .bool (carF s) ∧ S' = S :=
  str_len (fun h=>carrier_A s (by unfold maxLen at h;omega) S) ⟨Tryz.f89,Tryz.func89,by kernel_rfl,by kernel_rfl⟩
theorem rcodeT_A (s : Txt) (a b : Nat) (S : Store) : CallA Tryz.prog 97 [.str s,.int .i64 (a : Nat),.int .i64 (b : Nat)] S fun r S'=>r = .bool (codeF s a b) ∧ S' = S :=
  str_len (fun h=>rcode_A s a b (by unfold maxLen at h;omega) S) ⟨Tryz.f97,Tryz.func97,by kernel_rfl,by kernel_rfl⟩
theorem rcarrierT_A (s : Txt) (S : Store) : CallA Tryz.prog 120 [.str s] S fun r S'=>r = .bool (carF s) ∧ S' = S :=
  str_len (fun h=>rcarrier_A s (by unfold maxLen at h;omega) S) ⟨Tryz.f120,Tryz.func120,by kernel_rfl,by kernel_rfl⟩
def minF (n : Int) : Bool:=decide (-1440 ≤ n) && decide (n < 5760)
theorem min_A (n : Int) (S : Store) : CallA Tryz.prog 136 [.int .i64 n] S fun r S'=>r = .bool (minF n) ∧ S' = S:=by
  refine CallA.keep Tryz.func136 c636 (Nat.le_of_ble_eq_true rfl) fun σ hσ=>?_
  unfold minF
  by_cases h1 : -1440 ≤ n
  · simp only[a636,dT h1,Bool.true_and,↓eA,eB,evU,seval]
  · simp only[a636,dF h1,Bool.false_and,↓eA,eB,evU,seval]
theorem out_A (n : Int) (S : Store) : CallA Tryz.prog 100 [.int .i64 n] S fun r S'=>r = .bool (!minF n) ∧ S' = S:=by
  refine CallA.keep Tryz.func100 c600 (Nat.le_of_ble_eq_true rfl) fun σ hσ=>?_
  unfold minF
  by_cases h1 : n < -1440
  · have h1' : ¬ -1440 ≤ n:=by omega
    simp only[a600,dT h1,dF h1',Bool.false_and,Bool.not_false,↓eA,eB,evU,seval]
  · have h1' : -1440 ≤ n:=by omega
    by_cases h2 : 5759 < n
    · have h2' : ¬ n < 5760:=by omega
      simp only[a600,dF h1,dT h1',dT h2,dF h2',Bool.true_and,Bool.not_false,↓eA,eB,evU,seval]
    · have h2' : n < 5760:=by omega
      simp only[a600,dF h1,dT h1',dF h2,dT h2',Bool.true_and,Bool.not_true,↓eA,eB,evU,seval]
def ixF {α : Type} (q : α → Bool) : List α → Nat → Int
  | [],_=>-1
  | y :: l,k=>if q y then (k : Nat) else ixF q l (k + 1)
theorem ix_any {α : Type} (q : α → Bool) : ∀ (l : List α) (k : Nat),decide (0 ≤ ixF q l k) = l.any q
  | [],k=>by simp [ixF]
  | y :: l,k=>by
    rw[ixF]
    by_cases h : q y = true
    · have : (0 : Int) ≤ (k : Nat):=by omega
      simp [h,this]
    · rw[if_neg h,ix_any q l (k + 1)]
      simp [h]
theorem drop_at {α : Type} {l : List α} {k : Nat} {x : α} (h : l[k]? = some x) : l.drop k = x :: l.drop (k + 1):=by
  obtain ⟨hlt,rfl⟩:=List.getElem?_eq_some_iff.1 h
  exact List.drop_eq_getElem_cons hlt
theorem index_A (l : List Lg) (q : Lg → Bool) (g : FuncId) (caps : List V) (hl : l.length ≤ 1000000) (hq : ∀ x S,CallA Tryz.prog g (.agg (lgR x) :: caps) S fun r S'=>r = .bool (q x) ∧ S' = S) (S : Store) :
    CallA Tryz.prog 152 [.sl 5 (l.map lgR),.func g [] caps] S fun r S'=>r = .int .i64 (ixF q l 0) ∧ S' = S:=by
  refine CallA.keep Tryz.func152 c652 (Nat.le_of_ble_eq_true rfl) fun σ hσ=>?_
  simp only[lgR] at hq
  simp (disch:=first|omega|(simp only[lenT];omega)) only[a652,evSt,↓eA,eB,evU,seval]
  refine loopA (ι:=Nat) (fun k=>[(0,.sl 5 (l.map lgR)),(1,.func g [] caps),(7,.int .i64 l.length),(8,.int .i64 (k : Nat))]) (fun _=>S) (fun k=>k ≤ l.length ∧ ixF q l 0 = ixF q (l.drop k) k) (fun k=>l.length - k) 0 ⟨Nat.zero_le _,rfl⟩ ?_ rfl ?_
  · simp only[↓eA,eB,evU,seval]
  rintro k ⟨hk,he⟩
  cases hc : l[k]? with
  | none =>
    have hge : l.length ≤ k:=List.getElem?_eq_none_iff.1 hc
    have hlt : ¬ ((k : Int) < l.length):=by omega
    rw[List.drop_eq_nil_of_le hge] at he
    simp (disch:=first|omega|(simp only[lenT];omega)) only[dF hlt,he,ixF,evSt,↓eA,eB,evU,seval]
  | some y =>
    have hlt':=(List.getElem?_eq_some_iff.1 hc).1
    have hlt : (k : Int) < l.length:=by omega
    have hk1 : (k : Int) + 1 = ((k + 1 : Nat) : Int):=by omega
    rw[drop_at hc,ixF] at he
    simp (disch:=first|omega|(simp only[lenT];omega)) only[dT hlt,hc,lgR,evSt,↓eA,eB,evU,seval]
    refine (hq y S).then ?_
    cases hy : q y with
    | true =>
      rw[if_pos hy] at he
      simp (disch:=first|omega|(simp only[lenT];omega)) only[he,evSt,↓eA,eB,evU,seval]
    | false =>
      rw[if_neg (by simp [hy])] at he
      simp (disch:=first|omega|(simp only[lenT];omega)) only[wrap_i64,hk1,evSt,↓eA,eB,evU,seval]
      exact ⟨k + 1,⟨by omega,he⟩,by omega,rfl⟩
theorem contains_A (l : List Lg) (q : Lg → Bool) (g : FuncId) (caps : List V) (hl : l.length ≤ 1000000) (hq : ∀ x S,CallA Tryz.prog g (.agg (lgR x) :: caps) S fun r S'=>r = .bool (q x) ∧ S' = S) (S : Store) :
    CallA Tryz.prog 154 [.sl 5 (l.map lgR),.func g [] caps] S fun r S'=>r = .bool (l.any q) ∧ S' = S:=by
  refine CallA.keep Tryz.func154 c654 (Nat.le_of_ble_eq_true rfl) fun σ hσ=>?_
  simp (disch:=first|omega|(simp only[lenT];omega)) only[a654,evSt,↓eA,eB,evU,seval]
  refine (index_A l q g caps hl hq S).then ?_
  simp (disch:=first|omega|(simp only[lenT];omega)) only[ix_any,evSt,↓eA,eB,evU,seval]
def folF (L : List Lg) (i : Nat) (l : Lg) : Bool:=(match i with
  | 0=>true
  | j + 1=>match L[j]? with
    | some l0=>decide (l.f = l0.t)
    | none=>true) && !((L.take (i + 1)).any fun x=>decide (x.f = l.t))
theorem folF_zero {L : List Lg} {i : Nat} {l : Lg} (h : ¬ 0 < i) : folF L i l = !((L.take (i + 1)).any fun x=>decide (x.f = l.t)):=by
  obtain rfl : i = 0:=by omega
  simp [folF]
theorem folF_succ {L : List Lg} {i : Nat} {l l0 : Lg} (hi : 0 < i) (h : L[i - 1]? = some l0) : folF L i l = (decide (l.f = l0.t) && !((L.take (i + 1)).any fun x=>decide (x.f = l.t))):=by
  cases i with
  | zero=>omega
  | succ j =>
    rw[Nat.add_sub_cancel] at h
    simp [folF,h]
theorem fol1_A (L : List Lg) (i : Nat) (l x : Lg) (hl : L.length ≤ 1000000) (hc : L[i]? = some l) (S : Store) : CallA Tryz.prog 166 [.agg (lgR x),.cptr [.sl 5 (L.map lgR)],.cptr [.int .i64 (i : Nat)]] S fun r S'=>r = .bool (decide (x.f = l.t)) ∧ S' = S:=by
  refine CallA.keep Tryz.func166 c666 (Nat.le_of_ble_eq_true rfl) fun σ hσ=>?_
  have hlt:=(List.getElem?_eq_some_iff.1 hc).1
  simp (disch:=first|omega|(simp only[lenT];omega)) only[a666,lgR,hc,evSt,↓eA,eB,evU,seval]
theorem follows_A (L : List Lg) (i : Nat) (l : Lg) (hl : L.length ≤ 1000000) (hc : L[i]? = some l) (S : Store) : CallA Tryz.prog 135 [.sl 5 (L.map lgR),.int .i64 (i : Nat)] S fun r S'=>r = .bool (folF L i l) ∧ S' = S:=by
  refine CallA.keep Tryz.func135 c635 (Nat.le_of_ble_eq_true rfl) fun σ hσ=>?_
  have hlt:=(List.getElem?_eq_some_iff.1 hc).1
  have hi1 : (i : Int) + 1 = ((i + 1 : Nat) : Int):=by omega
  have hle : ((i + 1 : Nat) : Int) ≤ L.length:=by omega
  have hcon:=contains_A (L.take (i + 1)) (fun x=>decide (x.f = l.t)) 166 [.cptr [.sl 5 (L.map lgR)],.cptr [.int .i64 (i : Nat)]] (by simp;omega) (fun x S=>fol1_A L i l x hl hc S) S
  by_cases hi : 0 < i
  · obtain ⟨l0,h0⟩ : ∃ l0,L[i - 1]? = some l0:=⟨L[i - 1]'(by omega),List.getElem?_eq_getElem (by omega)⟩
    rw[folF_succ hi h0]
    have hp : (0 : Int) < (i : Int):=by omega
    have hj : (i : Int) - 1 = ((i - 1 : Nat) : Int):=by omega
    by_cases he : l.f = l0.t
    · simp (disch:=first|omega|(simp only[lenT];omega)) only[a635,lgR,dT hp,dT he,hj,hi1,hle,hc,h0,wrap_i64,if_true,Bool.true_and,Bool.not_not,evSt,↓eA,eB,evU,seval]
      refine hcon.then ?_
      simp (disch:=first|omega|(simp only[lenT];omega)) only[evSt,↓eA,eB,evU,seval]
    · simp (disch:=first|omega|(simp only[lenT];omega)) only[a635,lgR,dT hp,dF he,hj,hi1,hle,hc,h0,wrap_i64,if_true,Bool.false_and,Bool.not_false,evSt,↓eA,eB,evU,seval]
  · have hp : ¬ (0 : Int) < (i : Int):=by omega
    rw[folF_zero hi]
    simp (disch:=first|omega|(simp only[lenT];omega)) only[a635,dF hp,hi1,hle,wrap_i64,if_true,Bool.not_not,evSt,↓eA,eB,evU,seval]
    refine hcon.then ?_
    simp (disch:=first|omega|(simp only[lenT];omega)) only[evSt,↓eA,eB,evU,seval]
theorem any_take {L : List Lg} {k : Nat} {x : Lg} {q : Lg → Bool} (h : L[k]? = some x) : (L.take (k + 1)).any q = ((L.take k).any q || q x):=by
  rw[take_at h,List.any_append,List.any_cons,List.any_nil,Bool.or_false]
theorem any_mono {L : List Lg} {j k : Nat} {q : Lg → Bool} (hjk : j ≤ k) (h : (L.take j).any q = true) : (L.take k).any q = true:=by
  rw[List.any_eq_true] at h ⊢
  obtain ⟨x,hx,hq⟩:=h
  exact ⟨x,(List.take_subset_take_left L hjk) hx,hq⟩
theorem broken_A (L : List Lg) (i : Nat) (l : Lg) (hl : L.length ≤ 1000000) (hc : L[i]? = some l) (S : Store) : CallA Tryz.prog 99 [.sl 5 (L.map lgR),.int .i64 (i : Nat)] S fun r S'=>r = .bool (!folF L i l) ∧ S' = S:=by
  refine CallA.keep Tryz.func99 c599 (Nat.le_of_ble_eq_true rfl) fun σ hσ=>?_
  have hlt:=(List.getElem?_eq_some_iff.1 hc).1
  by_cases hi : 0 < i
  · obtain ⟨l0,h0⟩ : ∃ l0,L[i - 1]? = some l0:=⟨L[i - 1]'(by omega),List.getElem?_eq_getElem (by omega)⟩
    rw[folF_succ hi h0]
    have hp : (0 : Int) < (i : Int):=by omega
    have hj : (i : Int) - 1 = ((i - 1 : Nat) : Int):=by omega
    by_cases he : l.f = l0.t
    · simp (disch:=first|omega|(simp only[lenT];omega)) only[a599,lgR,dT hp,dT he,hj,hc,h0,wrap_i64,if_true,Bool.true_and,Bool.not_not,evSt,↓eA,eB,evU,seval]
      refine loopA (ι:=Nat) (fun k=>[(0,.sl 5 (L.map lgR)),(1,.int .i64 (i : Nat)),(5,.int .i64 (k : Nat))]) (fun _=>S) (fun k=>k ≤ i + 1 ∧ ((L.take k).any fun x=>decide (x.f = l.t)) = false) (fun k=>i + 1 - k) 0 ⟨Nat.zero_le _,by simp⟩ ?_ rfl ?_
      · simp only[↓eA,eB,evU,seval]
        try rfl
      rintro k ⟨hk,hnone⟩
      by_cases hki : k ≤ i
      · have hki' : (k : Int) ≤ i:=by omega
        obtain ⟨x,hx⟩ : ∃ x,L[k]? = some x:=⟨L[k]'(by omega),List.getElem?_eq_getElem (by omega)⟩
        have hk1 : (k : Int) + 1 = ((k + 1 : Nat) : Int):=by omega
        have hat:=any_take (q:=fun x=>decide (x.f = l.t)) hx
        rw[hnone,Bool.false_or] at hat
        by_cases hxe : x.f = l.t
        · have hany : ((L.take (i + 1)).any fun x=>decide (x.f = l.t)) = true:=any_mono (j:=k + 1) (by omega) (by rw[hat];exact decide_eq_true hxe)
          simp (disch:=first|omega|(simp only[lenT];omega)) only[lgR,dT hki',dT hxe,hany,hx,hc,evSt,↓eA,eB,evU,seval]
        · simp (disch:=first|omega|(simp only[lenT];omega)) only[lgR,dT hki',dF hxe,hx,hc,wrap_i64,hk1,evSt,↓eA,eB,evU,seval]
          exact ⟨k + 1,⟨by omega,by rw[hat];exact decide_eq_false hxe⟩,by omega,rfl⟩
      · have hki' : ¬ (k : Int) ≤ i:=by omega
        have hke : k = i + 1:=by omega
        rw[hke] at hnone
        simp (disch:=first|omega|(simp only[lenT];omega)) only[dF hki',hnone,evSt,↓eA,eB,evU,seval]
    · simp (disch:=first|omega|(simp only[lenT];omega)) only[a599,lgR,dT hp,dF he,hj,hc,h0,wrap_i64,if_true,Bool.false_and,Bool.not_false,evSt,↓eA,eB,evU,seval]
  · have hp : ¬ (0 : Int) < (i : Int):=by omega
    rw[folF_zero hi]
    simp (disch:=first|omega|(simp only[lenT];omega)) only[a599,dF hp,wrap_i64,if_true,Bool.not_not,evSt,↓eA,eB,evU,seval]
    refine loopA (ι:=Nat) (fun k=>[(0,.sl 5 (L.map lgR)),(1,.int .i64 (i : Nat)),(5,.int .i64 (k : Nat))]) (fun _=>S) (fun k=>k ≤ i + 1 ∧ ((L.take k).any fun x=>decide (x.f = l.t)) = false) (fun k=>i + 1 - k) 0 ⟨Nat.zero_le _,by simp⟩ ?_ rfl ?_
    · simp only[↓eA,eB,evU,seval]
      try rfl
    rintro k ⟨hk,hnone⟩
    by_cases hki : k ≤ i
    · have hki' : (k : Int) ≤ i:=by omega
      obtain ⟨x,hx⟩ : ∃ x,L[k]? = some x:=⟨L[k]'(by omega),List.getElem?_eq_getElem (by omega)⟩
      have hk1 : (k : Int) + 1 = ((k + 1 : Nat) : Int):=by omega
      have hat:=any_take (q:=fun x=>decide (x.f = l.t)) hx
      rw[hnone,Bool.false_or] at hat
      by_cases hxe : x.f = l.t
      · have hany : ((L.take (i + 1)).any fun x=>decide (x.f = l.t)) = true:=any_mono (j:=k + 1) (by omega) (by rw[hat];exact decide_eq_true hxe)
        simp (disch:=first|omega|(simp only[lenT];omega)) only[lgR,dT hki',dT hxe,hany,hx,hc,evSt,↓eA,eB,evU,seval]
      · simp (disch:=first|omega|(simp only[lenT];omega)) only[lgR,dT hki',dF hxe,hx,hc,wrap_i64,hk1,evSt,↓eA,eB,evU,seval]
        exact ⟨k + 1,⟨by omega,by rw[hat];exact decide_eq_false hxe⟩,by omega,rfl⟩
    · have hki' : ¬ (k : Int) ≤ i:=by omega
      have hke : k = i + 1:=by omega
      rw[hke] at hnone
      simp (disch:=first|omega|(simp only[lenT];omega)) only[dF hki',hnone,evSt,↓eA,eB,evU,seval]
def ordL : Option Int → List Dt → Bool
  | _,[]=>true
  | b,d :: r=>!decide (d.arr ≤ d.dep) && ((match b with
    | none=>true
    | some a=>!decide (d.dep < a)) && ordL (some d.arr) r)
def befO (k : Nat) (b : Int) : Option Int:=if 0 < k then some b else none
theorem ordL_bad {b : Option Int} {d : Dt} {r : List Dt} (h : d.arr ≤ d.dep) : ordL b (d :: r) = false:=by simp [ordL,h]
theorem ordL_late {k : Nat} {b : Int} {d : Dt} {r : List Dt} (hk : 0 < k) (h : d.dep < b) : ordL (befO k b) (d :: r) = false:=by simp [ordL,befO,hk,h]
theorem ordL_go {k : Nat} {b : Int} {d : Dt} {r : List Dt} (h : ¬ d.arr ≤ d.dep) (h2 : ¬ (0 < k ∧ d.dep < b)) : ordL (befO k b) (d :: r) = ordL (befO (k + 1) d.arr) r:=by
  have e : befO (k + 1) d.arr = some d.arr:=by simp [befO]
  rw[e]
  by_cases hk : 0 < k
  · have h3 : ¬ d.dep < b:=fun h=>h2 ⟨hk,h⟩
    simp [ordL,befO,hk,h,h3]
  · simp [ordL,befO,hk,h]
theorem ordered_A (p : Pls) (hp : POk p) (x : Fl) (day : Int) (hl : x.legs.length ≤ 100000) (S : Store) : CallA Tryz.prog 92 [plV p,.sl 5 (x.legs.map lgR),.int .i64 day] S fun r S'=>r = .bool (ordL none (legsF p x day)) ∧ S' = S:=by
  refine CallA.withNeat Tryz.func92 c592 fun hn=>?_
  refine CallA.fin Tryz.func92 c592 (Nat.le_of_ble_eq_true rfl) fun σ hσ=>?_
  have ht:=fun l S=>timeC_A p hp l day S
  simp only[plV,lgR] at ht
  simp (disch:=first|omega|(simp only[lenT];omega)) only[a592,plV,evSt,↓eA,eB,evU,seval]
  refine loopF (ι:=Nat × Int) (fun i=>[(2,.int .i64 day),(3,.cptr [.sl 5 (p.1.map aptR),.sl 3 (p.2.map dstR)]),(7,.int .i64 i.2),(12,.sl 5 (x.legs.map lgR)),(13,.int .i64 x.legs.length),(14,.int .i64 (i.1 : Nat))]) (fun _=>S) (fun i=>i.1 ≤ x.legs.length ∧ ordL none (legsF p x day) = ordL (befO i.1 i.2) ((legsF p x day).drop i.1)) (fun i=>x.legs.length - i.1) (fun i hi=>by rw[hσ];exact Nat.le_refl _) (0,0) ⟨Nat.zero_le _,rfl⟩ (.inl ⟨?_,rfl⟩) ?_
  · simp only[↓eA,eB,evU,seval]
  rintro ⟨k,b⟩ ⟨hk,he⟩
  simp only at hk he ⊢
  cases hc : x.legs[k]? with
  | none =>
    have hge : x.legs.length ≤ k:=List.getElem?_eq_none_iff.1 hc
    have hlt : ¬ ((k : Int) < x.legs.length):=by omega
    rw[List.drop_eq_nil_of_le (by simp [legsF];omega),ordL] at he
    simp (disch:=first|omega|(simp only[lenT];omega)) only[dF hlt,he,evSt,↓eA,eB,evU,seval]
    exact ⟨_,S,hn.self,.imm rfl,Nat.le_refl _,rfl,rfl⟩
  | some l =>
    have hlt':=(List.getElem?_eq_some_iff.1 hc).1
    have hlt : (k : Int) < x.legs.length:=by omega
    have hk1 : (k : Int) + 1 = ((k + 1 : Nat) : Int):=by omega
    have hd : (legsF p x day)[k]? = some (datF p x day l):=by simp [legsF,hc]
    rw[drop_at hd] at he
    simp (disch:=first|omega|(simp only[lenT];omega)) only[dT hlt,hc,lgR,evSt,↓eA,eB,evU,seval]
    refine (ht l _).then ?_
    by_cases h1 : atF p l.t day l.arr ≤ atF p l.f day l.dep
    · rw[ordL_bad h1] at he
      simp (disch:=first|omega|(simp only[lenT];omega)) only[dT h1,he,evSt,↓eA,eB,evU,seval]
      exact ⟨_,S,hn.fgt _,.imm rfl,Nat.le_refl _,rfl,rfl⟩
    · by_cases h2 : 0 < k ∧ atF p l.f day l.dep < b
      · rw[ordL_late h2.1 h2.2] at he
        have h3 : (0 : Int) < (k : Int):=by omega
        simp (disch:=first|omega|(simp only[lenT];omega)) only[dF h1,dT h2.2,dT h3,he,evSt,↓eA,eB,evU,seval]
        exact ⟨_,S,hn.fgt _,.imm rfl,Nat.le_refl _,rfl,rfl⟩
      · rw[ordL_go h1 h2] at he
        by_cases h3 : (0 : Int) < (k : Int)
        · have h4 : ¬ atF p l.f day l.dep < b:=fun h=>h2 ⟨by omega,h⟩
          simp (disch:=first|omega|(simp only[lenT];omega)) only[dF h1,dF h4,dT h3,wrap_i64,hk1,evSt,↓eA,eB,evU,seval]
          exact ⟨(k + 1,_),⟨by simp only;omega,he⟩,by simp only;omega,back_under (hn.fgt _) (by simp only[datF,↓eA,eB,evU,seval]) (by simp [V.under])⟩
        · simp (disch:=first|omega|(simp only[lenT];omega)) only[dF h1,dF h3,wrap_i64,hk1,evSt,↓eA,eB,evU,seval]
          exact ⟨(k + 1,_),⟨by simp only;omega,he⟩,by simp only;omega,back_under (hn.fgt _) (by simp only[datF,↓eA,eB,evU,seval]) (by simp [V.under])⟩
def befD (L : List Dt) : Nat → Option Int
  | 0=>none
  | k + 1=>(L[k]?).map (·.arr)
theorem rordered_A (L : List Dt) (hl : L.length ≤ 1000000) (S : Store) : CallA Tryz.prog 102 [.sl 8 (L.map dtR)] S fun r S'=>r = .bool (ordL none L) ∧ S' = S:=by
  refine CallA.keep Tryz.func102 c602 (Nat.le_of_ble_eq_true rfl) fun σ hσ=>?_
  simp (disch:=first|omega|(simp only[lenT];omega)) only[a602,evSt,↓eA,eB,evU,seval]
  refine loopA (ι:=Nat) (fun k=>[(0,.sl 8 (L.map dtR)),(3,.int .i64 (k : Nat))]) (fun _=>S) (fun k=>k ≤ L.length ∧ ordL none L = ordL (befD L k) (L.drop k)) (fun k=>L.length - k) 0 ⟨Nat.zero_le _,rfl⟩ ?_ rfl ?_
  · simp only[↓eA,eB,evU,seval]
  rintro k ⟨hk,he⟩
  cases hc : L[k]? with
  | none =>
    have hge : L.length ≤ k:=List.getElem?_eq_none_iff.1 hc
    have hlt : ¬ ((k : Int) < L.length):=by omega
    rw[List.drop_eq_nil_of_le hge,ordL] at he
    simp (disch:=first|omega|(simp only[lenT];omega)) only[dF hlt,he,evSt,↓eA,eB,evU,seval]
  | some d =>
    have hlt':=(List.getElem?_eq_some_iff.1 hc).1
    have hlt : (k : Int) < L.length:=by omega
    have hk1 : (k : Int) + 1 = ((k + 1 : Nat) : Int):=by omega
    rw[drop_at hc] at he
    by_cases h1 : d.arr ≤ d.dep
    · rw[ordL_bad h1] at he
      simp (disch:=first|omega|(simp only[lenT];omega)) only[dT hlt,dT h1,hc,dtR,he,evSt,↓eA,eB,evU,seval]
    · have hn1 : befD L (k + 1) = befO (k + 1) d.arr:=by simp [befD,befO,hc]
      by_cases h3 : (0 : Int) < (k : Int)
      · obtain ⟨d0,h0⟩ : ∃ d0,L[k - 1]? = some d0:=⟨L[k - 1]'(by omega),List.getElem?_eq_getElem (by omega)⟩
        have hb : befD L k = befO k d0.arr:=by
          cases k with
          | zero=>omega
          | succ j=>simp only[befD,befO];simp at h0 ⊢;exact ⟨d0,h0,rfl⟩
        have hj : (k : Int) - 1 = ((k - 1 : Nat) : Int):=by omega
        rw[hb] at he
        by_cases h4 : d.dep < d0.arr
        · rw[ordL_late (by omega) h4] at he
          simp (disch:=first|omega|(simp only[lenT];omega)) only[dT hlt,dF h1,dT h3,dT h4,hc,h0,hj,dtR,he,wrap_i64,evSt,↓eA,eB,evU,seval]
        · rw[ordL_go h1 (fun h=>h4 h.2),← hn1] at he
          simp (disch:=first|omega|(simp only[lenT];omega)) only[dT hlt,dF h1,dT h3,dF h4,hc,h0,hj,hk1,dtR,wrap_i64,evSt,↓eA,eB,evU,seval]
          exact ⟨k + 1,⟨by omega,he⟩,by omega,rfl⟩
      · obtain rfl : k = 0:=by omega
        have hb : befD L 0 = befO 0 0:=rfl
        rw[hb,ordL_go h1 (fun h=>by omega),← hn1] at he
        have hlt0 : (0 : Int) < L.length:=by omega
        simp (disch:=first|omega|(simp only[lenT];omega)) only[dT hlt0,dF h1,hc,dtR,wrap_i64,evSt,↓eA,eB,evU,seval]
        exact ⟨0 + 1,⟨by omega,he⟩,by omega,rfl⟩
def legErr (p : Pls) (L : List Lg) (i : Nat) (l : Lg) : List Int :=
  (if codeF l.eq 3 3 then [] else [5]) ++ ((if (findF p l.f).isSome && (findF p l.t).isSome then [] else [14]) ++ ((if folF L i l then [] else [15]) ++ (if minF l.dep && minF l.arr then [] else [2])))
set_option maxHeartbeats 2000000 in
theorem leg_A (p : Pls) (hp : POk p) (L : List Lg) (i : Nat) (l : Lg) (hl : L.length ≤ 1000000) (hc : L[i]? = some l) (S : Store) : CallA Tryz.prog 90 [plV p,.sl 5 (L.map lgR),.int .i64 (i : Nat)] S fun r S'=>r = .sl 1 ((legErr p L i l).map inR) ∧ S' = S:=by
  refine CallA.withNeat Tryz.func90 c590 fun hn=>?_
  refine CallA.fin Tryz.func90 c590 (Nat.le_of_ble_eq_true rfl) fun σ hσ=>?_
  have hlt:=(List.getElem?_eq_some_iff.1 hc).1
  obtain ⟨c1,c2,c3,o1,v1,e1,i1,k1,_,_⟩:=find_zone p hp l.f
  obtain ⟨c4,c5,c6,o2,v2,e2,i2,k2,_,_⟩:=find_zone p hp l.t
  have f1:=fun S=>find_A p l.f S hp.h1
  have f2:=fun S=>find_A p l.t S hp.h1
  simp only[plV,e1] at f1
  simp only[plV,e2] at f2
  have hcode:=fun S=>codeT_A l.eq 3 3 S
  simp (disch:=first|omega|(simp only[lenT];omega)) only[a590,plV,lgR,hc,evSt,↓eA,eB,evU,seval]
  refine (f1 _).then ?_
  simp (disch:=first|omega|(simp only[lenT];omega)) only[i1,k1,evSt,↓eA,eB,evU,seval]
  refine (f2 _).then ?_
  simp (disch:=first|omega|(simp only[lenT];omega)) only[i1,k1,i2,k2,evSt,↓eA,eB,evU,seval]
  refine (hcode _).then ?_
  have hE : legErr p L i l = (if codeF l.eq 3 3 then [] else [5]) ++ ((if (findF p l.f).isSome && (findF p l.t).isSome then [] else [14]) ++ ((if folF L i l then [] else [15]) ++ (if minF l.dep && minF l.arr then [] else [2]))):=rfl
  rw[hE]
  have hfol:=fun S=>follows_A L i l hl hc S
  have hm1:=fun S=>min_A l.dep S
  have hm2:=fun S=>min_A l.arr S
  revert hfol hm1 hm2
  generalize folF L i l = b4
  generalize minF l.dep = b5
  generalize minF l.arr = b6
  generalize codeF l.eq 3 3 = b1
  generalize (findF p l.f).isSome = b2
  generalize (findF p l.t).isSome = b3
  intro hfol hm1 hm2
  have r1 : (1 ≤ roomA) = True:=by simp [roomA]
  have r2 : (2 ≤ roomA) = True:=by simp [roomA]
  have r3 : (3 ≤ roomA) = True:=by simp [roomA]
  have r4 : (4 ≤ roomA) = True:=by simp [roomA]
  cases b1<;>cases b2<;>cases b3<;>simp (disch:=first|omega|(simp only[lenT];omega)) only[r1,r2,r3,r4,true_and,i1,k1,i2,k2,evSt,↓eA,eB,evU,seval]
  all_goals refine (hfol _).then ?_
  all_goals (cases b4<;>simp (disch:=first|omega|(simp only[lenT];omega)) only[r1,r2,r3,r4,true_and,i1,k1,i2,k2,evSt,↓eA,eB,evU,seval])
  all_goals refine (hm1 _).then ?_
  all_goals (cases b5<;>simp (disch:=first|omega|(simp only[lenT];omega)) only[r1,r2,r3,r4,true_and,i1,k1,i2,k2,evSt,↓eA,eB,evU,seval])
  all_goals try (refine (hm2 _).then ?_)
  all_goals try (cases b6<;>simp (disch:=first|omega|(simp only[lenT];omega)) only[r1,r2,r3,r4,true_and,i1,k1,i2,k2,evSt,↓eA,eB,evU,seval])
  all_goals first
    | exact ⟨_,S,hn.fgt _,.nil,Nat.le_refl _,rfl,rfl⟩
    | exact ⟨_,S,hn.fgt _,.sl (t:=34) (by omega) (by rw[ob_app,ob_cons,ob_cons,ob_cons,ob_head];rfl) rfl (by simp [inR,V.allImm,V.isImm]),Nat.le_refl _,rfl,rfl⟩
end Go.Proofs.YtiihkfjbllpiaaaGreatDoor
