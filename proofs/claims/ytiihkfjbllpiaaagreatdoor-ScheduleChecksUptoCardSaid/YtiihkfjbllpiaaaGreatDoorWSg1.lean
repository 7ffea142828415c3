/- calendar.Print is what the reference's Print is, if months have their lengths. -/
import Derived.Test.YtiihkfjbllpiaaaGreatDoorWSchE
import Derived.Test.YtiihkfjbllpiaaaGreatDoorProg
import Derived.WalkKit
import Derived.Lib.SmallJoins
import Derived.Test.YtiihkfjbllpiaaaGreatDoorWSma
namespace Go.Proofs.YtiihkfjbllpiaaaGreatDoor
open Go Go.AL
set_option linter.unusedSectionVars false
variable [Go.AL.Mode] [Go.AL.LooseM]
set_option linter.unusedSimpArgs false
set_option linter.unusedVariables false
def a593 : AFun:=⟨29,[.tmp 2],(.seq (.reg [⟨(some 2),none,.p (.mv (.c (.str [])))⟩])
  (.seq (.reg [⟨(some 7),none,.p (.mv (.t 0))⟩,
    ⟨(some 8),none,.call 138 [(.t 7)]⟩,
    ⟨(some 6),none,.p (.mv (.t 8))⟩,
    ⟨(some 9),none,.p (.ext 0 (.t 6))⟩,
    ⟨(some 10),none,.p (.ext 1 (.t 6))⟩,
    ⟨(some 11),none,.p (.ext 2 (.t 6))⟩,
    ⟨(some 3),none,.p (.mv (.t 9))⟩,
    ⟨(some 4),none,.p (.mv (.t 10))⟩,
    ⟨(some 5),none,.p (.mv (.t 11))⟩])
  (.seq (.seq (.reg [⟨(some 12),none,.p (.mv (.t 3))⟩,
    ⟨(some 13),none,.p (.bin .eql (.t 12) (.c (.int .i64 0)))⟩])
  (.cond (.t 13) (.seq (.reg [⟨(some 2),none,.p (.mv (.c (.str [])))⟩])
  .ret) .skip))
  (.seq (.reg [⟨(some 14),none,.p (.mv (.t 3))⟩,
    ⟨(some 15),none,.p (.bin .quo (.t 14) (.c (.int .i64 100)))⟩,
    ⟨(some 16),none,.call 139 [(.t 15)]⟩,
    ⟨(some 17),none,.p (.mv (.t 3))⟩,
    ⟨(some 18),none,.p (.bin .rem (.t 17) (.c (.int .i64 100)))⟩,
    ⟨(some 19),none,.call 139 [(.t 18)]⟩,
    ⟨(some 20),none,.p (.bin .add (.t 16) (.t 19))⟩,
    ⟨(some 21),none,.p (.bin .add (.t 20) (.c (.str [45])))⟩,
    ⟨(some 22),none,.p (.mv (.t 4))⟩,
    ⟨(some 23),none,.call 139 [(.t 22)]⟩,
    ⟨(some 24),none,.p (.bin .add (.t 21) (.t 23))⟩,
    ⟨(some 25),none,.p (.bin .add (.t 24) (.c (.str [45])))⟩,
    ⟨(some 26),none,.p (.mv (.t 5))⟩,
    ⟨(some 27),none,.call 139 [(.t 26)]⟩,
    ⟨(some 28),none,.p (.bin .add (.t 25) (.t 27))⟩,
    ⟨(some 2),none,.p (.mv (.t 28))⟩])
  .ret))))⟩
theorem c593 : compF Tryz.prog ⟨fun s=>[].contains s,fun _=>[]⟩ Tryz.f93 = some a593:=by kernel_rfl
def a638 : AFun := ⟨48, [.tmp 2, .tmp 3, .tmp 4], (.seq (.reg [⟨(some 2), none, .p (.mv (.c (.int .i64 0)))⟩,
    ⟨(some 3),none,.p (.mv (.c (.int .i64 0)))⟩,
    ⟨(some 4),none,.p (.mv (.c (.int .i64 0)))⟩])
  (.seq (.seq (.reg [⟨(some 9),none,.p (.mv (.t 0))⟩,
    ⟨(some 10),none,.p (.bin .lss (.t 9) (.c (.int .i64 0)))⟩,
    ⟨(some 11),none,.p (.mv (.t 10))⟩,
    ⟨(some 12),(some (11,false)),.p (.mv (.t 0))⟩,
    ⟨(some 13),(some (11,false)),.p (.bin .geq (.t 12) (.c (.int .i64 36525)))⟩,
    ⟨(some 14),none,.p (.pick (.t 11) (.c (.bool true)) (.t 13))⟩])
  (.cond (.t 14) (.seq (.reg [⟨(some 2),none,.p (.mv (.c (.int .i64 0)))⟩,
    ⟨(some 3),none,.p (.mv (.c (.int .i64 0)))⟩,
    ⟨(some 4),none,.p (.mv (.c (.int .i64 0)))⟩])
  .ret) .skip))
  (.seq (.reg [⟨(some 15),none,.p (.mv (.t 0))⟩,
    ⟨(some 16),none,.p (.bin .quo (.t 15) (.c (.int .i64 366)))⟩,
    ⟨(some 17),none,.p (.bin .add (.c (.int .i64 2000)) (.t 16))⟩,
    ⟨(some 5),none,.p (.mv (.t 17))⟩])
  (.seq (.block 0 (.loop (.seq (.seq (.reg [⟨(some 18),none,.p (.mv (.t 5))⟩,
    ⟨(some 19),none,.p (.bin .add (.t 18) (.c (.int .i64 1)))⟩,
    ⟨(some 20),none,.call 168 [(.t 19)]⟩,
    ⟨(some 21),none,.p (.mv (.t 0))⟩,
    ⟨(some 22),none,.p (.bin .leq (.t 20) (.t 21))⟩])
  (.cond (.t 22) .skip (.exit 0)))
  (.block 1 (.reg [⟨(some 23),none,.p (.mv (.t 5))⟩,
    ⟨(some 24),none,.p (.bin .add (.t 23) (.c (.int .i64 1)))⟩,
    ⟨(some 5),none,.p (.mv (.t 24))⟩])))))
  (.seq (.reg [⟨(some 25),none,.p (.mv (.t 0))⟩,
    ⟨(some 26),none,.p (.mv (.t 5))⟩,
    ⟨(some 27),none,.call 168 [(.t 26)]⟩,
    ⟨(some 28),none,.p (.bin .sub (.t 25) (.t 27))⟩,
    ⟨(some 6),none,.p (.mv (.t 28))⟩])
  (.seq (.seq (.reg [⟨(some 29),none,.p (.mv (.c (.int .i64 0)))⟩])
  (.block 2 (.loop (.seq (.reg [⟨(some 30),none,.p (.bin .lss (.t 29) (.c (.int .i64 12)))⟩])
  (.seq (.cond (.t 30) .skip (.exit 2))
  (.seq (.block 3 (.seq (.reg [⟨(some 31),none,.p (.mv (.t 29))⟩,
    ⟨(some 7),none,.p (.mv (.t 31))⟩])
  (.seq (.reg [⟨(some 32),none,.p (.mv (.t 5))⟩,
    ⟨(some 33),none,.p (.mv (.t 7))⟩,
    ⟨(some 34),none,.p (.bin .add (.t 33) (.c (.int .i64 1)))⟩,
    ⟨(some 35),none,.call 169 [(.t 32),(.t 34)]⟩,
    ⟨(some 8),none,.p (.mv (.t 35))⟩])
  (.seq (.seq (.reg [⟨(some 36),none,.p (.mv (.t 6))⟩,
    ⟨(some 37),none,.p (.mv (.t 8))⟩,
    ⟨(some 38),none,.p (.bin .lss (.t 36) (.t 37))⟩])
  (.cond (.t 38) (.seq (.reg [⟨(some 39),none,.p (.mv (.t 5))⟩,
    ⟨(some 40),none,.p (.mv (.t 7))⟩,
    ⟨(some 41),none,.p (.bin .add (.t 40) (.c (.int .i64 1)))⟩,
    ⟨(some 42),none,.p (.mv (.t 6))⟩,
    ⟨(some 43),none,.p (.bin .add (.t 42) (.c (.int .i64 1)))⟩,
    ⟨(some 2),none,.p (.mv (.t 39))⟩,
    ⟨(some 3),none,.p (.mv (.t 41))⟩,
    ⟨(some 4),none,.p (.mv (.t 43))⟩])
  .ret) .skip))
  (.reg [⟨(some 44),none,.p (.mv (.t 6))⟩,
    ⟨(some 45),none,.p (.mv (.t 8))⟩,
    ⟨(some 46),none,.p (.bin .sub (.t 44) (.t 45))⟩,
    ⟨(some 6),none,.p (.mv (.t 46))⟩])))))
  (.reg [⟨(some 47),none,.p (.bin .add (.t 29) (.c (.int .i64 1)))⟩,
    ⟨(some 29),none,.p (.mv (.t 47))⟩])))))))
  (.seq (.reg [⟨(some 2),none,.p (.mv (.c (.int .i64 0)))⟩,
    ⟨(some 3),none,.p (.mv (.c (.int .i64 0)))⟩,
    ⟨(some 4),none,.p (.mv (.c (.int .i64 0)))⟩])
  .ret)))))))⟩
theorem c638 : compF Tryz.prog ⟨fun s=>[].contains s,fun _=>[]⟩ Tryz.f138 = some a638:=by kernel_rfl
def a639 : AFun:=⟨13,[.tmp 2],(.seq (.reg [⟨(some 2),none,.p (.mv (.c (.str [])))⟩])
  (.seq (.reg [⟨(some 3),none,.p (.mv (.t 0))⟩,
    ⟨(some 4),none,.p (.bin .quo (.t 3) (.c (.int .i64 10)))⟩,
    ⟨(some 5),none,.p (.bin .add (.c (.int .i64 48)) (.t 4))⟩,
    ⟨(some 6),none,.p (.conv .u8 (.t 5))⟩,
    ⟨(some 7),none,.p (.mv (.t 0))⟩,
    ⟨(some 8),none,.p (.bin .rem (.t 7) (.c (.int .i64 10)))⟩,
    ⟨(some 9),none,.p (.bin .add (.c (.int .i64 48)) (.t 8))⟩,
    ⟨(some 10),none,.p (.conv .u8 (.t 9))⟩,
    ⟨(some 11),none,.p (.bsl 1 [(.int .u8 0)] 2 [(0,(.t 6)),(1,(.t 10))])⟩,
    ⟨(some 12),none,.p (.b2s (.t 11))⟩,
    ⟨(some 2),none,.p (.mv (.t 12))⟩])
  .ret))⟩
theorem c639 : compF Tryz.prog ⟨fun s=>[].contains s,fun _=>[]⟩ Tryz.f139 = some a639:=by kernel_rfl
def a668 : AFun:=⟨12,[.tmp 2],(.seq (.reg [⟨(some 2),none,.p (.mv (.c (.int .i64 0)))⟩])
  (.seq (.reg [⟨(some 4),none,.p (.mv (.t 0))⟩,
    ⟨(some 5),none,.p (.bin .sub (.t 4) (.c (.int .i64 2000)))⟩,
    ⟨(some 3),none,.p (.mv (.t 5))⟩])
  (.seq (.reg [⟨(some 6),none,.p (.mv (.t 3))⟩,
    ⟨(some 7),none,.p (.bin .mul (.c (.int .i64 365)) (.t 6))⟩,
    ⟨(some 8),none,.p (.mv (.t 3))⟩,
    ⟨(some 9),none,.p (.bin .add (.t 8) (.c (.int .i64 3)))⟩,
    ⟨(some 10),none,.p (.bin .quo (.t 9) (.c (.int .i64 4)))⟩,
    ⟨(some 11),none,.p (.bin .add (.t 7) (.t 10))⟩,
    ⟨(some 2),none,.p (.mv (.t 11))⟩])
  .ret)))⟩
theorem c668 : compF Tryz.prog ⟨fun s=>[].contains s,fun _=>[]⟩ Tryz.f168 = some a668:=by kernel_rfl
def LenP : Prop:=∀ (y m : Nat) (S : Store),2000 ≤ y → y < 3000 → 1 ≤ m → m ≤ 12 → CallA Tryz.prog 169 [.int .i64 y,.int .i64 m] S fun r S'=>r = .int .i64 (monL y m : Nat) ∧ S' = S
def fstN (y : Nat) : Nat:=365 * (y - 2000) + (y - 2000 + 3) / 4
theorem cfirst_A (y : Nat) (h : 2000 ≤ y) (h2 : y < 10000) (S : Store) : CallA Tryz.prog 168 [.int .i64 y] S fun r S'=>r = .int .i64 (fstN y : Nat) ∧ S' = S:=by
  refine CallA.keep Tryz.func168 c668 (Nat.le_of_ble_eq_true rfl) fun σ hσ=>?_
  have e1 : (y : Int) - 2000 = ((y - 2000 : Nat) : Int):=by omega
  have e2 : (365 : Int) * ((y - 2000 : Nat) : Int) = ((365 * (y - 2000) : Nat) : Int):=by omega
  have e3 : ((y - 2000 : Nat) : Int) + 3 = ((y - 2000 + 3 : Nat) : Int):=by omega
  have e4 : ((y - 2000 + 3 : Nat) : Int).tdiv 4 = (((y - 2000 + 3) / 4 : Nat) : Int):=by rw[Int.tdiv_eq_ediv_of_nonneg (by omega)];omega
  have e5 : ((365 * (y - 2000) : Nat) : Int) + (((y - 2000 + 3) / 4 : Nat) : Int) = (fstN y : Nat):=by unfold fstN;omega
  have hb : fstN y ≤ 365 * 10000 + 10000:=by unfold fstN;omega
  simp (disch:=first|omega|(simp only[lenT];omega)) only[a668,e1,e2,e3,e4,e5,wrap_i64,evSt,↓eA,eB,evU,seval]
def mS (y : Nat) : Nat → Nat
  | 0=>0
  | k + 1=>mS y k + monL y (k + 1)
theorem mS12 (y : Nat) : mS y 12 = if y % 4 = 0 then 366 else 365:=by
  simp only[mS,monL]
  by_cases h : y % 4 = 0<;>simp [h]
theorem fst_next {y : Nat} (h : 2000 ≤ y) : fstN (y + 1) = fstN y + mS y 12:=by
  rw[mS12]
  unfold fstN
  split<;>omega
theorem dl_mon (y n : Nat) : ∀ (k e : Nat),k ≤ 11 → dateL (n + k) y 1 (mS y k + e) = dateL n y (k + 1) e
  | 0,e,_=>by simp [mS]
  | k + 1,e,h=>by
    have ih:=dl_mon y (n + 1) k (monL y (k + 1) + e) (by omega)
    rw[show n + (k + 1) = n + 1 + k by omega,mS,show mS y k + monL y (k + 1) + e = mS y k + (monL y (k + 1) + e) by omega,ih,dateL,if_neg (by omega),if_neg (by omega),Nat.add_sub_cancel_left]
theorem dl_year (y n e : Nat) : dateL (n + 12) y 1 (mS y 12 + e) = dateL n (y + 1) 1 e:=by
  have h : dateL (n + 1 + 11) y 1 (mS y 11 + (monL y 12 + e)) = dateL (n + 1) y 12 (monL y 12 + e):=dl_mon y (n + 1) 11 (monL y 12 + e) (by omega)
  rw[show n + 12 = n + 1 + 11 by omega,show mS y 12 + e = mS y 11 + (monL y 12 + e) from Nat.add_assoc (mS y 11) (monL y 12) e,h,dateL,if_neg (by omega),if_pos rfl,Nat.add_sub_cancel_left]
theorem dl_years (n : Nat) : ∀ (k e : Nat),dateL (n + 12 * k) 2000 1 (fstN (2000 + k) + e) = dateL n (2000 + k) 1 e
  | 0,e=>by simp [fstN]
  | k + 1,e=>by
    have h:=dl_years (n + 12) k (mS (2000 + k) 12 + e)
    rw[show n + 12 * (k + 1) = n + 12 + 12 * k by omega,show 2000 + (k + 1) = 2000 + k + 1 from rfl,fst_next (by omega),show fstN (2000 + k) + mS (2000 + k) 12 + e = fstN (2000 + k) + (mS (2000 + k) 12 + e) by omega,h,dl_year]
theorem mS_ge (y : Nat) : ∀ k,k ≤ mS y k
  | 0=>Nat.le_refl _
  | k + 1=>by
    have:=mS_ge y k
    have:=monL_le y (k + 1)
    rw[mS]
    omega
theorem date_is {d y m e : Nat} (hy : 2000 ≤ y) (hm : m < 12) (hd : d = fstN y + (mS y m + e)) (he : e < monL y (m + 1)) : dateF d = (y,m + 1,e + 1):=by
  obtain ⟨k,rfl⟩ : ∃ k,y = 2000 + k:=⟨y - 2000,by omega⟩
  have hf : 365 * k ≤ fstN (2000 + k):=by unfold fstN;omega
  have hms:=mS_ge (2000 + k) m
  have h1:=dl_years (d - 12 * k) k (mS (2000 + k) m + e)
  have h2:=dl_mon (2000 + k) (d - 12 * k - m) m e (by omega)
  unfold dateF
  rw[show d - 12 * k + 12 * k = d by omega,← hd] at h1
  rw[show d - 12 * k - m + m = d - 12 * k by omega] at h2
  rw[h1,h2]
  cases d - 12 * k - m with
  | zero=>rfl
  | succ n=>rw[dateL,if_pos he]
theorem cdate_A (hL : LenP) (d : Nat) (hd : d < 36525) (S : Store) : CallA Tryz.prog 138 [.int .i64 d] S fun r S'=>r = .tup [.int .i64 (dateF d).1,.int .i64 (dateF d).2.1,.int .i64 (dateF d).2.2] ∧ S' = S:=by
  refine CallA.keep Tryz.func138 c638 (Nat.le_of_ble_eq_true rfl) fun σ hσ=>?_
  have k1 : ¬ ((d : Int) < 0):=by omega
  have k2 : ¬ (36525 ≤ (d : Int)):=by omega
  have e366 : (d : Int).tdiv 366 = ((d / 366 : Nat) : Int):=by rw[Int.tdiv_eq_ediv_of_nonneg (by omega)];omega
  have e2 : (2000 : Int) + ((d / 366 : Nat) : Int) = ((2000 + d / 366 : Nat) : Int):=by omega
  simp (disch:=first|omega|(simp only[lenT];omega)) only[a638,dF k1,dF k2,e366,e2,wrap_i64,evSt,↓eA,eB,evU,seval]
  refine loopA (ι:=Nat) (fun y=>[(0,.int .i64 (d : Nat)),(5,.int .i64 (y : Nat))]) (fun _=>S) (fun y=>2000 ≤ y ∧ fstN y ≤ d) (fun y=>2000 + d - y) (2000 + d / 366) ⟨by omega,by unfold fstN;omega⟩ ?_ rfl ?_
  · simp only[↓eA,eB,evU,seval]
    try rfl
  rintro y ⟨h1,h2⟩
  have hy : y ≤ 2101:=by unfold fstN at h2;omega
  have hy1 : (y : Int) + 1 = ((y + 1 : Nat) : Int):=by omega
  have hnx:=fst_next h1
  have h12:=mS12 y
  simp (disch:=first|omega|(simp only[lenT];omega)) only[hy1,wrap_i64,evSt,↓eA,eB,evU,seval]
  refine (cfirst_A (y + 1) (by omega) (by omega) S).then ?_
  by_cases hle : fstN (y + 1) ≤ d
  · have hle' : ((fstN (y + 1) : Nat) : Int) ≤ d:=by omega
    simp (disch:=first|omega|(simp only[lenT];omega)) only[dT hle',hy1,wrap_i64,evSt,↓eA,eB,evU,seval]
    exact ⟨y + 1,⟨by omega,hle⟩,by unfold fstN at hle;omega,rfl⟩
  · have hle' : ¬ ((fstN (y + 1) : Nat) : Int) ≤ d:=by omega
    simp (disch:=first|omega|(simp only[lenT];omega)) only[dF hle',evSt,↓eA,eB,evU,seval]
    refine (cfirst_A y h1 (by omega) S).then ?_
    have hsub : (d : Int) - (fstN y : Nat) = ((d - fstN y : Nat) : Int):=by omega
    simp (disch:=first|omega|(simp only[lenT];omega)) only[hsub,wrap_i64,evSt,↓eA,eB,evU,seval]
    refine loopA (ι:=Nat × Nat) (fun i=>[(5,.int .i64 (y : Nat)),(6,.int .i64 (i.2 : Nat)),(29,.int .i64 (i.1 : Nat))]) (fun _=>S) (fun i=>i.1 ≤ 12 ∧ mS y i.1 + i.2 = d - fstN y) (fun i=>12 - i.1) (0,d - fstN y) ⟨by simp,by simp [mS]⟩ ?_ rfl ?_
    · simp only[↓eA,eB,evU,seval]
      try rfl
    rintro ⟨m,e⟩ ⟨hm,he⟩
    simp only at hm he ⊢
    have hm12 : m < 12:=by
      rcases Nat.lt_or_ge m 12 with h | h
      · exact h
      · obtain rfl : m = 12:=by omega
        omega
    have hlt : ((m : Nat) : Int) < 12:=by omega
    have hm1 : (m : Int) + 1 = ((m + 1 : Nat) : Int):=by omega
    have hml:=monL_le y (m + 1)
    simp (disch:=first|omega|(simp only[lenT];omega)) only[dT hlt,hm1,wrap_i64,evSt,↓eA,eB,evU,seval]
    refine (hL y (m + 1) S h1 (by omega) (by omega) (by omega)).then ?_
    by_cases hlm : e < monL y (m + 1)
    · have hlm' : ((e : Nat) : Int) < (monL y (m + 1) : Nat):=by omega
      have hr:=date_is h1 hm12 (d:=d) (e:=e) (by omega) hlm
      have he1 : (e : Int) + 1 = ((e + 1 : Nat) : Int):=by omega
      simp (disch:=first|omega|(simp only[lenT];omega)) only[dT hlm',hm1,he1,hr,wrap_i64,evSt,↓eA,eB,evU,seval]
    · have hlm' : ¬ ((e : Nat) : Int) < (monL y (m + 1) : Nat):=by omega
      have hs : (e : Int) - (monL y (m + 1) : Nat) = ((e - monL y (m + 1) : Nat) : Int):=by omega
      simp (disch:=first|omega|(simp only[lenT];omega)) only[dF hlm',hm1,hs,wrap_i64,evSt,↓eA,eB,evU,seval]
      exact ⟨(m + 1,e - monL y (m + 1)),⟨by simp only;omega,by simp only[mS];omega⟩,by simp only;omega,rfl,rfl⟩
theorem ctwo_A (n : Nat) (hn : n < 1000000) (S : Store) : CallA Tryz.prog 139 [.int .i64 n] S fun r S'=>r = .str (twoB n) ∧ S' = S:=by
  refine CallA.keep Tryz.func139 c639 (Nat.le_of_ble_eq_true rfl) fun σ hσ=>?_
  have e1 : (n : Int).tdiv 10 = ((n / 10 : Nat) : Int):=by rw[Int.tdiv_eq_ediv_of_nonneg (by omega)];omega
  have e2 : (n : Int).tmod 10 = ((n % 10 : Nat) : Int):=by rw[Int.tmod_eq_emod_of_nonneg (by omega)];omega
  have u : ∀ a : Nat,IntKind.u8.wrap (48 + (a : Int)) = (((UInt8.ofNat (48 + a)).toNat : Nat) : Int):=fun a=>by
    simp only[IntKind.wrap,IntKind.signed,IntKind.bits,UInt8.toNat_ofNat']
    simp
  have hb : b2sV S (.sl 1 [[.int .u8 (IntKind.u8.wrap (48 + (n / 10 : Nat)))],[.int .u8 (IntKind.u8.wrap (48 + (n % 10 : Nat)))]]) = some (.str (twoB n)):=by
    rw[u,u]
    exact b2s_sl (l:=twoB n)
  simp (disch:=first|omega|(simp only[lenT];omega)) only[a639,e1,e2,hb,wrap_i64,evSt,↓eA,eB,evU,seval]
theorem cprint_A (hL : LenP) (d : Nat) (hd : d < 36525) (S : Store) : CallA Tryz.prog 93 [.int .i64 d] S fun r S'=>r = .str (prtF d) ∧ S' = S:=by
  refine CallA.keep Tryz.func93 c593 (Nat.le_of_ble_eq_true rfl) fun σ hσ=>?_
  obtain ⟨g1,g2,g3,g4⟩:=date_ge d 2000 1 d
  have g5:=g3 (by omega)
  have hda:=fun S=>cdate_A hL d hd S
  have hp : prtF d = twoB ((dateF d).1 / 100) ++ (twoB ((dateF d).1 % 100) ++ ([45] ++ (twoB (dateF d).2.1 ++ ([45] ++ twoB (dateF d).2.2)))):=rfl
  rw[hp]
  simp only[dateF] at hda ⊢
  revert hda g1 g2 g4 g5
  generalize dateL d 2000 1 d = q
  obtain ⟨y,m,e⟩:=q
  intro g1 g2 g4 g5 hda
  simp only at g1 g2 g4 g5 hda ⊢
  have e1 : (y : Int).tdiv 100 = ((y / 100 : Nat) : Int):=by rw[Int.tdiv_eq_ediv_of_nonneg (by omega)];omega
  have e2 : (y : Int).tmod 100 = ((y % 100 : Nat) : Int):=by rw[Int.tmod_eq_emod_of_nonneg (by omega)];omega
  have k0 : decide ((y : Int) = 0) = false:=decide_eq_false (by omega)
  have b1 : binV .add (.str (twoB (y / 100))) (.str (twoB (y % 100))) = some (.str (twoB (y / 100) ++ twoB (y % 100))):=bs_add (Nat.le_of_ble_eq_true rfl)
  have b2 : binV .add (.str (twoB (y / 100) ++ twoB (y % 100))) (.str [45]) = some (.str (twoB (y / 100) ++ twoB (y % 100) ++ [45])):=bs_add (Nat.le_of_ble_eq_true rfl)
  have b3 : binV .add (.str (twoB (y / 100) ++ twoB (y % 100) ++ [45])) (.str (twoB m)) = some (.str (twoB (y / 100) ++ twoB (y % 100) ++ [45] ++ twoB m)):=bs_add (Nat.le_of_ble_eq_true rfl)
  have b4 : binV .add (.str (twoB (y / 100) ++ twoB (y % 100) ++ [45] ++ twoB m)) (.str [45]) = some (.str (twoB (y / 100) ++ twoB (y % 100) ++ [45] ++ twoB m ++ [45])):=bs_add (Nat.le_of_ble_eq_true rfl)
  have b5 : binV .add (.str (twoB (y / 100) ++ twoB (y % 100) ++ [45] ++ twoB m ++ [45])) (.str (twoB e)) = some (.str (twoB (y / 100) ++ twoB (y % 100) ++ [45] ++ twoB m ++ [45] ++ twoB e)):=bs_add (Nat.le_of_ble_eq_true rfl)
  simp (disch:=first|omega|(simp only[lenT];omega)) only[a593,evSt,↓eA,eB,evU,seval]
  refine (hda _).then ?_
  simp (disch:=first|omega|(simp only[lenT];omega)) only[k0,e1,e2,wrap_i64,evSt,↓eA,eB,evU,seval]
  refine (ctwo_A (y / 100) (by omega) _).then ?_
  simp (disch:=first|omega|(simp only[lenT];omega)) only[k0,e1,e2,wrap_i64,evSt,↓eA,eB,evU,seval]
  refine (ctwo_A (y % 100) (by omega) _).then ?_
  simp (disch:=first|omega|(simp only[lenT];omega)) only[k0,e1,e2,b1,b2,wrap_i64,evSt,↓eA,eB,evU,seval]
  refine (ctwo_A m (by omega) _).then ?_
  simp (disch:=first|omega|(simp only[lenT];omega)) only[b3,b4,wrap_i64,evSt,↓eA,eB,evU,seval]
  refine (ctwo_A e (by omega) _).then ?_
  simp (disch:=first|omega|(simp only[lenT];omega)) only[b5,wrap_i64,evSt,↓eA,eB,evU,seval]
  try simp
end Go.Proofs.YtiihkfjbllpiaaaGreatDoor
/- calendar.length reads its table: months have their lengths. -/
namespace Go.Proofs.YtiihkfjbllpiaaaGreatDoor
open Go Go.RowKit Go.Shelf
set_option linter.unusedVariables false
set_option linter.unusedSectionVars false
variable [Go.AL.Mode] [Go.AL.LooseM]
theorem length_leap (y : Int) (w : World) (h4 : y.tmod 4 = 0) : Calls Tryz.prog 169 #[.int .i64 y,.int .i64 2] w fun e w'=>e = .returned (.int .i64 29) ∧ w' = w:=by
  go_enter Tryz.func169,Tryz.ntmps169
  go_wp2
  all_goals first
    | (go_ret;exact ⟨rfl,rfl⟩)
    | (exfalso;simp_all)
theorem length_feb (y v : Int) (w : World) (h4 : ¬ y.tmod 4 = 0) (hc : w.cell? ⟨1,1,none⟩ = some (.int .i64 v)) : Calls Tryz.prog 169 #[.int .i64 y,.int .i64 2] w fun e w'=>e = .returned (.int .i64 v) ∧ w' = w:=by
  go_enter Tryz.func169,Tryz.ntmps169
  go_wp2
  all_goals first
    | (go_ret;exact ⟨rfl,rfl⟩)
    | (exfalso;simp_all)
theorem length_oth (y m v : Int) (w : World) (hm1 : 1 ≤ m) (hm : m ≤ 12) (h : m ≠ 2) (hc : w.cell? ⟨1,m.toNat - 1,none⟩ = some (.int .i64 v)) : Calls Tryz.prog 169 #[.int .i64 y,.int .i64 m] w fun e w'=>e = .returned (.int .i64 v) ∧ w' = w:=by
  go_enter Tryz.func169,Tryz.ntmps169
  go_wp2
  all_goals first
    | (go_ret;exact ⟨rfl,rfl⟩)
    | (exfalso;simp_all)
theorem lenP : LenP:=fun y m S hy1 hy2 hm1 hm2=>by
  refine ⟨⟨_,Tryz.func169,by kernel_rfl,by kernel_rfl⟩,fun ρ w us hi hv=>?_⟩
  obtain ⟨u,x,rfl,hu,hx⟩:=hv.two
  cases hu
  cases hx
  obtain ⟨_,t,fr,hh⟩:=hi.tab _ (List.mem_cons_self ..)
  have e4 : (y : Int).tmod 4 = ((y % 4 : Nat) : Int):=by rw[Int.tmod_eq_emod_of_nonneg (by omega)];omega
  by_cases h : m = 2 ∧ y % 4 = 0
  · obtain ⟨rfl,h4⟩:=h
    have hm : monL y 2 = 29:=by simp [monL,h4]
    refine (length_leap y w (by rw[e4];omega)).mono fun en w' ⟨he,hw⟩=>?_
    subst hw
    exact ⟨ρ,S,_,_,he,.int,hi,AL.Ext.refl _ _ _,by rw[hm];rfl,rfl⟩
  · have hl : w.cell? ⟨1,((m : Int) - 1).toNat,none⟩ = some (.int .i64 (monL y m : Nat)):=by
      have hh' : w.heap[1]? = _:=hh
      have hcb : ∀ k,w.cell? ⟨1,k,none⟩ = (#[.int .i64 31,.int .i64 28,.int .i64 31,.int .i64 30,.int .i64 31,.int .i64 30,.int .i64 31,.int .i64 31,.int .i64 30,.int .i64 31,.int .i64 30,.int .i64 31] : Array Value)[k]?:=fun k=>by simp [World.cell?,hh']
      rw[hcb]
      have hc : m = 1 ∨ m = 2 ∨ m = 3 ∨ m = 4 ∨ m = 5 ∨ m = 6 ∨ m = 7 ∨ m = 8 ∨ m = 9 ∨ m = 10 ∨ m = 11 ∨ m = 12:=by omega
      rcases hc with rfl | rfl | rfl | rfl | rfl | rfl | rfl | rfl | rfl | rfl | rfl | rfl
      case inr.inl =>
        have h4 : ¬ y % 4 = 0:=fun h4=>h ⟨rfl,h4⟩
        simp [monL,h4]
      all_goals rfl
    have key : Calls Tryz.prog 169 #[.int .i64 (y : Int),.int .i64 (m : Int)] w fun e w'=>e = .returned (.int .i64 (monL y m : Nat)) ∧ w' = w:=by
      by_cases h2 : m = 2
      · subst h2
        exact length_feb y _ w (by rw[e4];intro b;exact h ⟨rfl,by omega⟩) hl
      · exact length_oth y m _ w (by omega) (by omega) (by omega) (by rw[← hl];congr 2;omega)
    refine key.mono fun en w' ⟨he,hw⟩=>?_
    subst hw
    exact ⟨ρ,S,_,_,he,.int,hi,AL.Ext.refl _ _ _,rfl,rfl⟩
end Go.Proofs.YtiihkfjbllpiaaaGreatDoor
/- Schedule: the law Checks,if months have their lengths. -/
namespace Go.Proofs.YtiihkfjbllpiaaaGreatDoor
open Go Go.AL
set_option linter.unusedSectionVars false
variable [Go.AL.Mode] [Go.AL.LooseM]
set_option linter.unusedSimpArgs false
set_option linter.unusedVariables false
theorem check80_A (hL : LenP) (p : Pls) (hp : POk p) (l : List Fl) (hl : l.length ≤ 50) (hx : ∀ x ∈ l,x.legs.length ≤ 1100000) (S : Store) :
    CallA Tryz.prog 14 [plV p,.sl 6 (l.map flR)] S fun r S'=>r = .sl 2 ((ttF p l rT).map ftR) ∧ S' = S:=by
  refine check8_A p hp l hl hx rT (fun x _ d hd _ S=>?_) (fun d=>by rw[rT,prtF_len];omega) S
  have h:=days_has hd
  unfold hasF at h
  rw[Bool.and_eq_true,decide_eq_true_eq] at h
  obtain ⟨⟨h1,h2,h3⟩,_⟩:=h
  have hq:=pd_ok h1
  have:=cprint_A hL d.toNat (by omega) S
  rwa [show ((d.toNat : Nat) : Int) = d by omega] at this
theorem sl_checks (hL : LenP) (p : Pls) (l : List Fl) (hs : SSm p l) (S : Store) : CallA Tryz.prog 3 [plV p,.sl 6 (l.map flR)] S fun r S'=>r = .bool true ∧ S' = S:=by
  refine CallA.withNeat Tryz.func3 c503 fun hn=>?_
  refine CallA.fin Tryz.func3 c503 (Nat.le_of_ble_eq_true rfl) fun σ hσ=>?_
  have hfew:=fun S=>few_A p l hs S
  have hkn:=fun S=>knows8_A S
  simp only[plV] at hfew
  simp (disch:=first|omega|(simp only[lenT];omega)) only[a503,plV,evSt,↓eA,eB,evU,seval]
  refine (hfew _).mono ?_
  rintro _ S2 ⟨b,rfl,hb,hS2⟩
  rw[hS2]
  cases b with
  | false =>
    simp (disch:=first|omega|(simp only[lenT];omega)) only[evSt,↓eA,eB,evU,seval]
    refine (hkn _).then ?_
    simp (disch:=first|omega|(simp only[lenT];omega)) only[evSt,↓eA,eB,evU,seval]
    exact ⟨_,S,hn.self,.imm rfl,Nat.le_refl _,rfl,rfl⟩
  | true =>
    obtain ⟨hp,hl,h12⟩:=few_ok hs (hb rfl)
    have h1:=fun S=>rtt0_A p hp l (by omega) hs.h3 S
    have h2:=fun S=>check80_A hL p hp l (by omega) hs.h3 S
    have h3:=fun S=>rsameFt_A (ttF p l rT) (ttF p l rT) (by have:=ttErrs_len p l rT l.length;unfold ttF;omega) S
    rw[dT rfl] at h3
    simp only[plV] at h1 h2
    generalize ttF p l rT = F at h1 h2 h3
    simp (disch:=first|omega|(simp only[lenT];omega)) only[evSt,↓eA,eB,evU,seval]
    refine exD.intro (h2 _) ?_
    simp (disch:=first|omega|(simp only[lenT];omega)) only[evSt,↓eA,eB,evU,seval]
    refine (h1 _).then ?_
    simp (disch:=first|omega|(simp only[lenT];omega)) only[evSt,↓eA,eB,evU,seval]
    refine (h3 _).then ?_
    simp (disch:=first|omega|(simp only[lenT];omega)) only[evSt,↓eA,eB,evU,seval]
    refine (hkn _).then ?_
    simp (disch:=first|omega|(simp only[lenT];omega)) only[evSt,↓eA,eB,evU,seval]
    exact ⟨_,S,hn.self,.imm rfl,Nat.le_refl _,rfl,rfl⟩
end Go.Proofs.YtiihkfjbllpiaaaGreatDoor
