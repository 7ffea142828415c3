/- Fare calculations are checked. -/
import Derived.Test.YtkdbghhdklfoiaaDoorSCn0
namespace Go.Proofs.YtkdbghhdklfoiaaDoor
open Go Go.AL Go.RowKit
set_option linter.unusedSectionVars false
variable [Go.AL.Mode] [Go.AL.LooseM]
set_option linter.unusedSimpArgs false
set_option linter.unusedVariables false
def okB (n : Int) : Bool := decide (0 ≤ n) && decide (n ≤ 1099511627776)
structure Chg where
  co : Txt
  am : Int
def chgR (x : Chg) : List V := [.str x.co, .int .i64 x.am]
structure Cal where
  its : List Itm
  txs : List Chg
  fare : Int
  tot : Int
def calR (c : Cal) : List V := [.sl 4 (c.its.map itmR), .sl 2 (c.txs.map chgR), .int .i64 c.fare, .int .i64 c.tot]
def szB (x : Itm) : Bool := decide (1 ≤ x.ks.length) && decide (x.ks.length ≤ 6) && decide (x.cs.length = x.ks.length + 1)
def nmB (x : Itm) : Bool := codeF x.ba 1 8 && x.cs.all airF && x.ks.all carF
def lgB (last : Option Txt) (x : Itm) : Bool := match last with
  | some l => decide (x.cs.head? = some l)
  | none => true
def itmErr (last : Option Txt) (x : Itm) : Int := if szB x = false then 4 else if nmB x = false then 5 else if lgB last x = false then 15 else if okB x.am = false then 11 else 0
def lastOf (l : List Itm) : Option Txt := l.getLast?.bind fun x => x.cs.getLast?
def itsErr (last : Option Txt) : List Itm → Int
  | [] => 0
  | x :: l => if itmErr last x = 0 then itsErr x.cs.getLast? l else itmErr last x
def txErr (x : Chg) : Int := if codeF x.co 1 8 = false then 5 else if okB x.am = false then 11 else 0
def txsErr : List Chg → Int
  | [] => 0
  | x :: l => if txErr x = 0 then txsErr l else txErr x
def sumI (l : List Itm) : Int := (l.map (·.am)).sum
def sumT (l : List Chg) : Int := (l.map (·.am)).sum
def smErr (c : Cal) : Int := if okB c.fare = false ∨ okB c.tot = false then 11 else if sumI c.its ≠ c.fare ∨ c.fare + sumT c.txs ≠ c.tot then 2 else 0
def chkF (c : Cal) : Int :=
  if c.its.length = 0 ∨ 6 < c.its.length ∨ 512 < c.txs.length then 4
  else if itsErr none c.its = 0 then (if txsErr c.txs = 0 then smErr c else txsErr c.txs) else itsErr none c.its
theorem amt_A (n : Int) (S : Store) : CallA Tryd.prog 45 [.int .i64 n] S fun r S' => r = .bool (okB n) ∧ S' = S := by
  refine CallA.keep Tryd.func45 c10045 (Nat.le_of_ble_eq_true rfl) fun σ hσ => ?_
  unfold okB
  by_cases h1 : 0 ≤ n <;> by_cases h2 : n ≤ 1099511627776 <;> simp (disch := first | omega | (simp only [lenT]; omega)) only [a10045, h1, h2, decide_true, decide_false, Bool.and_true, Bool.and_false, Bool.true_and, Bool.false_and, evSt, ↓evPre, ↓evPreW, evPost, evPostW, evR, evU, seval]
theorem all_next {α : Type} {l : List α} {q : α → Bool} {k : Nat} {x : α} (h : (l.take k).all q = true) (hx : l[k]? = some x) (hq : q x = true) : (l.take (k + 1)).all q = true := by
  rw [take_at hx, List.all_append, h]
  simp [hq]
theorem all_bad {α : Type} {l : List α} {q : α → Bool} {k : Nat} {x : α} (hx : l[k]? = some x) (hq : q x = false) : l.all q = false := by
  rw [List.all_eq_false]
  exact ⟨x, List.mem_of_getElem? hx, by rw [hq]; simp⟩
set_option maxHeartbeats 2000000 in
theorem check_A (x : Itm) (bf : List Itm) (hc : x.cs.length ≤ 1000000000) (hk : x.ks.length ≤ 1000000000) (hb : ∀ y ∈ bf, y.cs ≠ []) (hyb : ∀ y ∈ bf, y.cs.length ≤ 1000000000) (hbl : bf.length ≤ 1000000) (S : Store) :
    CallA Tryd.prog 43 [.agg (itmR x), .sl 4 (bf.map itmR)] S fun r S' => r = .int .i64 (itmErr (lastOf bf) x) ∧ S' = S := by
  refine CallA.keep Tryd.func43 c10043 (Nat.le_of_ble_eq_true rfl) fun σ hσ => ?_
  have ca := fun s S => airportT_A s S
  have cc := fun s S => carrierT_A s S
  have cd := fun s S => codeT_A s 1 8 S
  have cm := fun n S => amt_A n S
  unfold itmErr
  have z1 : ∀ (h : szB x = false), (if szB x = false then (4 : Int) else if nmB x = false then 5 else if lgB (lastOf bf) x = false then 15 else if okB x.am = false then 11 else 0) = 4 := fun h => if_pos h
  by_cases h1 : (x.ks.length : Int) = 0
  · rw [z1 (by unfold szB; rw [dF (show ¬ 1 ≤ x.ks.length by omega)]; rfl)]
    simp (disch := first | omega | (simp only [lenT]; omega)) only [a10043, itmR, wrap_i64, h1, decide_true, decide_false, Bool.not_true, Bool.not_false, evSt, ↓evPre, ↓evPreW, evPost, evPostW, evR, evU, seval]
  by_cases h2 : 6 < (x.ks.length : Int)
  · rw [z1 (by unfold szB; rw [dF (show ¬ x.ks.length ≤ 6 by omega)]; simp)]
    simp (disch := first | omega | (simp only [lenT]; omega)) only [a10043, itmR, wrap_i64, dF h1, dT h2, decide_true, decide_false, Bool.not_true, Bool.not_false, evSt, ↓evPre, ↓evPreW, evPost, evPostW, evR, evU, seval]
  by_cases h3 : (x.cs.length : Int) = (x.ks.length : Int) + 1
  case neg =>
    rw [z1 (by unfold szB; rw [dF (show ¬ x.cs.length = x.ks.length + 1 by omega)]; simp)]
    simp (disch := first | omega | (simp only [lenT]; omega)) only [a10043, itmR, wrap_i64, dF h1, dF h2, dF h3, decide_true, decide_false, Bool.not_true, Bool.not_false, evSt, ↓evPre, ↓evPreW, evPost, evPostW, evR, evU, seval]
  have hz : szB x = true := by unfold szB; rw [dT (show 1 ≤ x.ks.length by omega), dT (show x.ks.length ≤ 6 by omega), dT (show x.cs.length = x.ks.length + 1 by omega)]; rfl
  rw [if_neg (by rw [hz]; simp)]
  clear z1
  have z2 : ∀ (h : nmB x = false), (if nmB x = false then (5 : Int) else if lgB (lastOf bf) x = false then 15 else if okB x.am = false then 11 else 0) = 5 := fun h => if_pos h
  simp (disch := first | omega | (simp only [lenT]; omega)) only [a10043, itmR, wrap_i64, h3, dF h1, dF h2, decide_true, decide_false, Bool.not_true, Bool.not_false, evSt, ↓evPre, ↓evPreW, evPost, evPostW, evR, evU, seval]
  refine (cd _ _).then ?_
  cases hba : codeF x.ba 1 8 with
  | false =>
    rw [z2 (by unfold nmB; rw [hba]; rfl)]
    simp (disch := first | omega | (simp only [lenT]; omega)) only [decide_true, decide_false, Bool.not_true, Bool.not_false, evSt, ↓evPre, ↓evPreW, evPost, evPostW, evR, evU, seval]
  | true =>
    simp (disch := first | omega | (simp only [lenT]; omega)) only [decide_true, decide_false, Bool.not_true, Bool.not_false, evSt, ↓evPre, ↓evPreW, evPost, evPostW, evR, evU, seval]
    refine loopA (ι := Nat) (fun k => [(1, .sl 4 (bf.map itmR)), (2, .cptr (itmR x)), (33, .sl 1 (x.cs.map txR)), (34, .int .i64 x.cs.length), (35, .int .i64 (k : Nat))]) (fun _ => S) (fun k => k ≤ x.cs.length ∧ (x.cs.take k).all airF = true) (fun k => x.cs.length - k) 0 ⟨Nat.zero_le _, rfl⟩ ?_ rfl ?_
    · rw [h3]
      simp only [itmR, ↓evPre, ↓evPreW, evPost, evPostW, evR, evU, seval]
      try rfl
    rintro k ⟨hk, hall⟩
    cases hcx : x.cs[k]? with
    | some t =>
      have hlt' := (List.getElem?_eq_some_iff.1 hcx).1
      have hlt : ((k : Int) < x.cs.length) := by omega
      have hk1 : (k : Int) + 1 = ((k + 1 : Nat) : Int) := by omega
      simp (disch := first | omega | (simp only [lenT]; omega)) only [dT hlt, hcx, itmR, txR, decide_true, decide_false, Bool.not_true, Bool.not_false, evSt, ↓evPre, ↓evPreW, evPost, evPostW, evR, evU, seval]
      refine (ca _ _).then ?_
      cases hat : airF t with
      | false =>
        rw [z2 (by unfold nmB; rw [all_bad hcx hat, hba]; rfl)]
        simp (disch := first | omega | (simp only [lenT]; omega)) only [decide_true, decide_false, Bool.not_true, Bool.not_false, evSt, ↓evPre, ↓evPreW, evPost, evPostW, evR, evU, seval]
      | true =>
        simp (disch := first | omega | (simp only [lenT]; omega)) only [wrap_i64, hk1, decide_true, decide_false, Bool.not_true, Bool.not_false, evSt, ↓evPre, ↓evPreW, evPost, evPostW, evR, evU, seval]
        exact ⟨k + 1, ⟨by omega, all_next hall hcx hat⟩, by omega, rfl⟩
    | none =>
      have hge : x.cs.length ≤ k := List.getElem?_eq_none_iff.1 hcx
      have hlt : ¬ ((k : Int) < x.cs.length) := by omega
      rw [List.take_of_length_le hge] at hall
      clear hcx hge hk
      simp (disch := first | omega | (simp only [lenT]; omega)) only [dF hlt, itmR, decide_true, decide_false, Bool.not_true, Bool.not_false, evSt, ↓evPre, ↓evPreW, evPost, evPostW, evR, evU, seval]
      refine loopA (ι := Nat) (fun k => [(1, .sl 4 (bf.map itmR)), (2, .cptr (itmR x)), (44, .sl 1 (x.ks.map txR)), (45, .int .i64 x.ks.length), (46, .int .i64 (k : Nat))]) (fun _ => S) (fun k => k ≤ x.ks.length ∧ (x.ks.take k).all carF = true) (fun k => x.ks.length - k) 0 ⟨Nat.zero_le _, rfl⟩ ?_ rfl ?_
      · simp only [itmR, ↓evPre, ↓evPreW, evPost, evPostW, evR, evU, seval]
        try rfl
      clear hlt k
      rintro k ⟨hk, hall2⟩
      cases hcx : x.ks[k]? with
      | some t =>
        have hlt' := (List.getElem?_eq_some_iff.1 hcx).1
        have hlt : ((k : Int) < x.ks.length) := by omega
        have hk1 : (k : Int) + 1 = ((k + 1 : Nat) : Int) := by omega
        simp (disch := first | omega | (simp only [lenT]; omega)) only [dT hlt, hcx, itmR, txR, decide_true, decide_false, Bool.not_true, Bool.not_false, evSt, ↓evPre, ↓evPreW, evPost, evPostW, evR, evU, seval]
        refine (cc _ _).then ?_
        cases hat : carF t with
        | false =>
          rw [z2 (by unfold nmB; rw [all_bad hcx hat]; simp)]
          simp (disch := first | omega | (simp only [lenT]; omega)) only [decide_true, decide_false, Bool.not_true, Bool.not_false, evSt, ↓evPre, ↓evPreW, evPost, evPostW, evR, evU, seval]
        | true =>
          simp (disch := first | omega | (simp only [lenT]; omega)) only [wrap_i64, hk1, decide_true, decide_false, Bool.not_true, Bool.not_false, evSt, ↓evPre, ↓evPreW, evPost, evPostW, evR, evU, seval]
          exact ⟨k + 1, ⟨by omega, all_next hall2 hcx hat⟩, by omega, rfl⟩
      | none =>
        have hge : x.ks.length ≤ k := List.getElem?_eq_none_iff.1 hcx
        have hlt : ¬ ((k : Int) < x.ks.length) := by omega
        rw [List.take_of_length_le hge] at hall2
        clear hcx hge hk
        have hnm : nmB x = true := by unfold nmB; rw [hba, hall, hall2]; rfl
        rw [if_neg (by rw [hnm]; simp)]
        have fin : ∀ b : Bool, (b = okB x.am) → (if b = true then (0 : Int) else 11) = if okB x.am = false then 11 else 0 := fun b h => by subst h; cases okB x.am <;> rfl
        by_cases hb0 : (0 : Int) < bf.length
        · obtain ⟨y, hy⟩ : ∃ y, bf[bf.length - 1]? = some y := ⟨_, List.getElem?_eq_getElem (by omega)⟩
          have hyc := hb y (List.mem_of_getElem? hy)
          obtain ⟨t, ht⟩ : ∃ t, y.cs[y.cs.length - 1]? = some t := ⟨_, List.getElem?_eq_getElem (by have := List.length_pos_iff.2 hyc; omega)⟩
          obtain ⟨t0, ht0⟩ : ∃ t0, x.cs[0]? = some t0 := ⟨_, List.getElem?_eq_getElem (by omega)⟩
          have hlast : lastOf bf = some t := by
            unfold lastOf
            rw [List.getLast?_eq_getElem?, hy, Option.bind_some, List.getLast?_eq_getElem?, ht]
          have hn1 : (bf.length : Int) - 1 = ((bf.length - 1 : Nat) : Int) := by omega
          have hyl : 0 < y.cs.length := List.length_pos_iff.2 hyc
          simp (disch := first | omega | (simp only [lenT]; omega)) only [dF hlt, dT hb0, wrap_i64, hn1, hy, itmR, decide_true, decide_false, Bool.not_true, Bool.not_false, evSt, ↓evPre, ↓evPreW, evPost, evPostW, evR, evU, seval]
          simp (disch := first | omega | (simp only [lenT]; omega)) only [ht0, txR, decide_true, decide_false, Bool.not_true, Bool.not_false, evSt, ↓evPre, ↓evPreW, evPost, evPostW, evR, evU, seval]
          rw [wrap_i64 (by omega) (by have := hyb y (List.mem_of_getElem? hy); omega), show (y.cs.length : Int) - 1 = ((y.cs.length - 1 : Nat) : Int) by omega]
          simp (disch := first | omega | (simp only [lenT]; omega)) only [ht, txR, decide_true, decide_false, Bool.not_true, Bool.not_false, evSt, ↓evPre, ↓evPreW, evPost, evPostW, evR, evU, seval]
          have hhd : x.cs.head? = some t0 := by rw [List.head?_eq_getElem?]; exact ht0
          rw [hlast]
          unfold lgB
          by_cases h5 : t0 = t
          · subst h5
            simp (disch := first | omega | (simp only [lenT]; omega)) only [decide_true, decide_false, Bool.not_true, Bool.not_false, evSt, ↓evPre, ↓evPreW, evPost, evPostW, evR, evU, seval]
            refine (cm _ _).then ?_
            cases hm : okB x.am <;> simp (disch := first | omega | (simp only [lenT]; omega)) only [hhd, decide_true, decide_false, Bool.not_true, Bool.not_false, evSt, ↓evPre, ↓evPreW, evPost, evPostW, evR, evU, seval]
            all_goals try rfl
          · have h5' : ¬ (some t0 = some t) := fun h => h5 (Option.some.inj h)
            simp (disch := first | omega | (simp only [lenT]; omega)) only [dF h5, hhd, dF h5', decide_true, decide_false, Bool.not_true, Bool.not_false, evSt, ↓evPre, ↓evPreW, evPost, evPostW, evR, evU, seval]
            all_goals exact fun h => absurd h5 h
        · have hb0' : bf = [] := List.length_eq_zero_iff.1 (by omega)
          subst hb0'
          simp (disch := first | omega | (simp only [lenT]; omega)) only [dF hlt, itmR, List.map_nil, List.length_nil, decide_true, decide_false, Bool.not_true, Bool.not_false, evSt, ↓evPre, ↓evPreW, evPost, evPostW, evR, evU, seval]
          refine (cm _ _).then ?_
          have hl0 : lgB (lastOf []) x = true := rfl
          cases hm : okB x.am <;> simp (disch := first | omega | (simp only [lenT]; omega)) only [hl0, decide_true, decide_false, Bool.not_true, Bool.not_false, evSt, ↓evPre, ↓evPreW, evPost, evPostW, evR, evU, seval]
          all_goals try rfl
theorem sumI_next {l : List Itm} {k : Nat} {x : Itm} (h : l[k]? = some x) : sumI (l.take (k + 1)) = sumI (l.take k) + x.am := by
  unfold sumI
  rw [take_at h]
  simp
theorem sumT_next {l : List Chg} {k : Nat} {x : Chg} (h : l[k]? = some x) : sumT (l.take (k + 1)) = sumT (l.take k) + x.am := by
  unfold sumT
  rw [take_at h]
  simp
theorem okB_iff {n : Int} : okB n = true ↔ 0 ≤ n ∧ n ≤ 1099511627776 := by unfold okB; simp
theorem sumI_bd (l : List Itm) (h : ∀ x ∈ l, okB x.am = true) : 0 ≤ sumI l ∧ sumI l ≤ 1099511627776 * l.length := by
  induction l with
  | nil => exact ⟨Int.le_refl _, Int.le_refl _⟩
  | cons x l ih =>
    have h1 := okB_iff.1 (h x (List.mem_cons_self ..))
    have h2 := ih fun y hy => h y (List.mem_cons_of_mem _ hy)
    unfold sumI at *
    simp only [List.map_cons, List.sum_cons, List.length_cons]
    omega
theorem sumT_bd (l : List Chg) (h : ∀ x ∈ l, okB x.am = true) : 0 ≤ sumT l ∧ sumT l ≤ 1099511627776 * l.length := by
  induction l with
  | nil => exact ⟨Int.le_refl _, Int.le_refl _⟩
  | cons x l ih =>
    have h1 := okB_iff.1 (h x (List.mem_cons_self ..))
    have h2 := ih fun y hy => h y (List.mem_cons_of_mem _ hy)
    unfold sumT at *
    simp only [List.map_cons, List.sum_cons, List.length_cons]
    omega
theorem mem_take {α : Type} {l : List α} {k : Nat} {q : α → Prop} (h : ∀ x ∈ l, q x) : ∀ x ∈ l.take k, q x := fun x hx => h x (List.mem_of_mem_take hx)
theorem itmR_imm (l : List Itm) : ∀ r ∈ l.map itmR, r.length = 4 ∧ V.allImm r = true := fun r hr => by
  obtain ⟨x, _, rfl⟩ := List.mem_map.1 hr
  exact ⟨rfl, rfl⟩
set_option maxHeartbeats 2000000 in
theorem sums_A (c : Cal) (h1 : ∀ x ∈ c.its, okB x.am = true) (h2 : ∀ x ∈ c.txs, okB x.am = true) (l1 : c.its.length ≤ 1000) (l2 : c.txs.length ≤ 1000) (S : Store) :
    CallA Tryd.prog 46 [.agg (calR c)] S fun r S' => r = .int .i64 (smErr c) ∧ S' = S := by
  refine CallA.withNeat Tryd.func46 c10046 fun hn => ?_
  refine CallA.fin Tryd.func46 c10046 (Nat.le_of_ble_eq_true rfl) fun σ hσ => ?_
  have cm := fun n S => amt_A n S
  unfold smErr
  simp (disch := first | omega | (simp only [lenT]; omega)) only [a10046, calR, decide_true, decide_false, Bool.not_true, Bool.not_false, evSt, ↓evPre, ↓evPreW, evPost, evPostW, evR, evU, seval]
  refine (cm _ _).then ?_
  cases hf : okB c.fare with
  | false =>
    simp (disch := first | omega | (simp only [lenT]; omega)) only [true_or, if_true, decide_true, decide_false, Bool.not_true, Bool.not_false, evSt, ↓evPre, ↓evPreW, evPost, evPostW, evR, evU, seval]
    exact ⟨_, S, hn.self, .imm rfl, Nat.le_refl _, rfl, rfl⟩
  | true =>
  simp (disch := first | omega | (simp only [lenT]; omega)) only [decide_true, decide_false, Bool.not_true, Bool.not_false, evSt, ↓evPre, ↓evPreW, evPost, evPostW, evR, evU, seval]
  refine (cm _ _).then ?_
  cases ht : okB c.tot with
  | false =>
    simp (disch := first | omega | (simp only [lenT]; omega)) only [or_true, if_true, decide_true, decide_false, Bool.not_true, Bool.not_false, evSt, ↓evPre, ↓evPreW, evPost, evPostW, evR, evU, seval]
    exact ⟨_, S, hn.self, .imm rfl, Nat.le_refl _, rfl, rfl⟩
  | true =>
  rw [if_neg (by simp)]
  have hfb := okB_iff.1 hf
  simp (disch := first | omega | (simp only [lenT]; omega)) only [decide_true, decide_false, Bool.not_true, Bool.not_false, evSt, ↓evPre, ↓evPreW, evPost, evPostW, evR, evU, seval]
  refine loopF (ι := Nat) (fun k => [(1, .cptr (calR c)), (3, .int .i64 (sumI (c.its.take k))), (20, .sl 4 (c.its.map itmR)), (21, .int .i64 c.its.length), (22, .int .i64 (k : Nat))]) (fun _ => S) (fun k => k ≤ c.its.length) (fun k => c.its.length - k) (fun i hi => by rw [hσ]; exact Nat.le_refl _) 0 (Nat.zero_le _) (.inl ⟨?_, rfl⟩) ?_
  · simp only [calR, sumI, List.map_nil, List.sum_nil, ↓evPre, ↓evPreW, evPost, evPostW, evR, evU, seval]
    try rfl
  rintro k hk
  cases hcx : c.its[k]? with
  | some x =>
    have hlt' := (List.getElem?_eq_some_iff.1 hcx).1
    have hlt : ((k : Int) < c.its.length) := by omega
    have hk1 : (k : Int) + 1 = ((k + 1 : Nat) : Int) := by omega
    have hb1 := sumI_bd _ (mem_take (k := k) h1)
    have hb2 := okB_iff.1 (h1 x (List.mem_of_getElem? hcx))
    rw [List.length_take] at hb1
    have hs : IntKind.i64.wrap (sumI (c.its.take k) + x.am) = sumI (c.its.take (k + 1)) := by rw [wrap_i64 (by omega) (by omega), sumI_next hcx]
    simp (disch := first | omega | (simp only [lenT]; omega)) only [dT hlt, hcx, itmR, txR, calR, decide_true, decide_false, Bool.not_true, Bool.not_false, evSt, ↓evPre, ↓evPreW, evPost, evPostW, evR, evU, seval]
    rw [hs]
    simp (disch := first | omega | (simp only [lenT]; omega)) only [wrap_i64, hk1, decide_true, decide_false, Bool.not_true, Bool.not_false, evSt, ↓evPre, ↓evPreW, evPost, evPostW, evR, evU, seval]
    exact ⟨k + 1, by omega, by omega, back_under (hn.fgt _) (by simp only [itmR, calR, ↓evPre, ↓evPreW, evPost, evPostW, evR, evU, seval]; try rfl) (by simp [V.under, V.allUnder])⟩
  | none =>
    have hge : c.its.length ≤ k := List.getElem?_eq_none_iff.1 hcx
    have hlt : ¬ ((k : Int) < c.its.length) := by omega
    rw [List.take_of_length_le hge]
    clear hcx hge hk
    simp (disch := first | omega | (simp only [lenT]; omega)) only [dF hlt, calR, decide_true, decide_false, Bool.not_true, Bool.not_false, evSt, ↓evPre, ↓evPreW, evPost, evPostW, evR, evU, seval]
    refine loopF (ι := Nat) (fun k => [(1, .cptr (calR c)), (3, .int .i64 (sumI c.its)), (6, .int .i64 (c.fare + sumT (c.txs.take k))), (34, .sl 2 (c.txs.map chgR)), (35, .int .i64 c.txs.length), (36, .int .i64 (k : Nat))]) (fun _ => S) (fun k => k ≤ c.txs.length) (fun k => c.txs.length - k) (fun i hi => by rw [hσ]; exact Nat.le_refl _) 0 (Nat.zero_le _) (.inl ⟨?_, rfl⟩) ?_
    · simp only [calR, sumT, List.map_nil, List.sum_nil, Int.add_zero, ↓evPre, ↓evPreW, evPost, evPostW, evR, evU, seval]
      try rfl
    clear hlt k
    rintro k hk
    cases hcx : c.txs[k]? with
    | some x =>
      have hlt' := (List.getElem?_eq_some_iff.1 hcx).1
      have hlt : ((k : Int) < c.txs.length) := by omega
      have hk1 : (k : Int) + 1 = ((k + 1 : Nat) : Int) := by omega
      have hb1 := sumT_bd _ (mem_take (k := k) h2)
      have hb2 := okB_iff.1 (h2 x (List.mem_of_getElem? hcx))
      rw [List.length_take] at hb1
      have hs : IntKind.i64.wrap (c.fare + sumT (c.txs.take k) + x.am) = c.fare + sumT (c.txs.take (k + 1)) := by rw [wrap_i64 (by omega) (by omega), sumT_next hcx]; omega
      simp (disch := first | omega | (simp only [lenT]; omega)) only [dT hlt, hcx, chgR, txR, calR, decide_true, decide_false, Bool.not_true, Bool.not_false, evSt, ↓evPre, ↓evPreW, evPost, evPostW, evR, evU, seval]
      rw [hs]
      simp (disch := first | omega | (simp only [lenT]; omega)) only [wrap_i64, hk1, decide_true, decide_false, Bool.not_true, Bool.not_false, evSt, ↓evPre, ↓evPreW, evPost, evPostW, evR, evU, seval]
      exact ⟨k + 1, by omega, by omega, back_under (hn.fgt _) (by simp only [chgR, calR, ↓evPre, ↓evPreW, evPost, evPostW, evR, evU, seval]; try rfl) (by simp [V.under, V.allUnder])⟩
    | none =>
      have hge : c.txs.length ≤ k := List.getElem?_eq_none_iff.1 hcx
      have hlt : ¬ ((k : Int) < c.txs.length) := by omega
      rw [List.take_of_length_le hge]
      cases q1 : decide (sumI c.its = c.fare) <;> cases q2 : decide (c.fare + sumT c.txs = c.tot)
      all_goals simp (disch := first | omega | (simp only [lenT]; omega)) only [dF hlt, calR, q1, q2, decide_true, decide_false, Bool.not_true, Bool.not_false, evSt, ↓evPre, ↓evPreW, evPost, evPostW, evR, evU, seval]
      all_goals refine ⟨_, S, hn.self, .imm rfl, Nat.le_refl _, ?_, rfl⟩
      all_goals simp only [decide_eq_true_eq, decide_eq_false_iff_not] at q1 q2
      all_goals simp [q1, q2]
theorem itm_ok {last : Option Txt} {x : Itm} (h : itmErr last x = 0) : szB x = true ∧ nmB x = true ∧ lgB last x = true ∧ okB x.am = true := by
  unfold itmErr at h
  cases h1 : szB x <;> cases h2 : nmB x <;> cases h3 : lgB last x <;> cases h4 : okB x.am <;> simp [h1, h2, h3, h4] at h ⊢
theorem sz_ne {x : Itm} (h : szB x = true) : x.cs ≠ [] := by
  intro e
  unfold szB at h
  simp [e] at h
theorem tx_ok {x : Chg} (h : txErr x = 0) : codeF x.co 1 8 = true ∧ okB x.am = true := by
  unfold txErr at h
  cases h1 : codeF x.co 1 8 <;> cases h2 : okB x.am <;> simp [h1, h2] at h ⊢
theorem drop_at {α : Type} {l : List α} {k : Nat} {x : α} (h : l[k]? = some x) : l.drop k = x :: l.drop (k + 1) := by
  obtain ⟨hlt, rfl⟩ := List.getElem?_eq_some_iff.1 h
  exact List.drop_eq_getElem_cons hlt
theorem lastOf_next {l : List Itm} {k : Nat} {x : Itm} (h : l[k]? = some x) : lastOf (l.take (k + 1)) = x.cs.getLast? := by
  unfold lastOf
  rw [take_at h, List.getLast?_concat]
  rfl
theorem mem_next {α : Type} {l : List α} {k : Nat} {x : α} {q : α → Prop} (h : ∀ y ∈ l.take k, q y) (hx : l[k]? = some x) (hq : q x) : ∀ y ∈ l.take (k + 1), q y := by
  rw [take_at hx]
  intro y hy
  rcases List.mem_append.1 hy with hy | hy
  · exact h y hy
  · rw [List.mem_singleton] at hy
    rw [hy]
    exact hq
set_option maxHeartbeats 4000000 in
theorem chk_A (c : Cal) (hcl : ∀ x ∈ c.its, x.cs.length ≤ 1000000000 ∧ x.ks.length ≤ 1000000000) (l1 : c.its.length ≤ 1000000000) (l2 : c.txs.length ≤ 1000000000) (S : Store) :
    CallA Tryd.prog 19 [.agg (calR c)] S fun r S' => r = .int .i64 (chkF c) ∧ S' = S := by
  refine CallA.withNeat Tryd.func19 c10019 fun hn => ?_
  refine CallA.fin Tryd.func19 c10019 (Nat.le_of_ble_eq_true rfl) fun σ hσ => ?_
  have cd := fun s S => codeT_A s 1 8 S
  have cm := fun n S => amt_A n S
  unfold chkF
  by_cases h1 : (c.its.length : Int) = 0
  · rw [if_pos (.inl (by omega))]
    simp (disch := first | omega | (simp only [lenT]; omega)) only [a10019, calR, dT h1, decide_true, decide_false, Bool.not_true, Bool.not_false, evSt, ↓evPre, ↓evPreW, evPost, evPostW, evR, evU, seval]
    exact ⟨_, S, hn.self, .imm rfl, Nat.le_refl _, rfl, rfl⟩
  by_cases h2 : 6 < (c.its.length : Int)
  · rw [if_pos (.inr (.inl (by omega)))]
    simp (disch := first | omega | (simp only [lenT]; omega)) only [a10019, calR, dF h1, dT h2, decide_true, decide_false, Bool.not_true, Bool.not_false, evSt, ↓evPre, ↓evPreW, evPost, evPostW, evR, evU, seval]
    exact ⟨_, S, hn.self, .imm rfl, Nat.le_refl _, rfl, rfl⟩
  by_cases h3 : 512 < (c.txs.length : Int)
  · rw [if_pos (.inr (.inr (by omega)))]
    simp (disch := first | omega | (simp only [lenT]; omega)) only [a10019, calR, dF h1, dF h2, dT h3, decide_true, decide_false, Bool.not_true, Bool.not_false, evSt, ↓evPre, ↓evPreW, evPost, evPostW, evR, evU, seval]
    exact ⟨_, S, hn.self, .imm rfl, Nat.le_refl _, rfl, rfl⟩
  rw [if_neg (by omega)]
  simp (disch := first | omega | (simp only [lenT]; omega)) only [a10019, calR, dF h1, dF h2, dF h3, decide_true, decide_false, Bool.not_true, Bool.not_false, evSt, ↓evPre, ↓evPreW, evPost, evPostW, evR, evU, seval]
  refine loopF (ι := Nat) (fun k => [(1, .cptr (calR c)), (25, .sl 4 (c.its.map itmR)), (26, .int .i64 c.its.length), (27, .int .i64 (k : Nat))]) (fun _ => S) (fun k => k ≤ c.its.length ∧ (∀ y ∈ c.its.take k, y.cs ≠ [] ∧ okB y.am = true) ∧ itsErr none c.its = itsErr (lastOf (c.its.take k)) (c.its.drop k)) (fun k => c.its.length - k) (fun i hi => by rw [hσ]; exact Nat.le_refl _) 0 ⟨Nat.zero_le _, fun y hy => by simp at hy, rfl⟩ (.inl ⟨?_, rfl⟩) ?_
  · simp only [calR, ↓evPre, ↓evPreW, evPost, evPostW, evR, evU, seval]
    try rfl
  rintro k ⟨hk, hg, he⟩
  cases hcx : c.its[k]? with
  | some x =>
    have hlt' := (List.getElem?_eq_some_iff.1 hcx).1
    have hlt : ((k : Int) < c.its.length) := by omega
    have hk1 : (k : Int) + 1 = ((k + 1 : Nat) : Int) := by omega
    have hxl := hcl x (List.mem_of_getElem? hcx)
    have ck := fun S => check_A x (c.its.take k) hxl.1 hxl.2 (fun y hy => (hg y hy).1) (fun y hy => (hcl y (List.mem_of_mem_take hy)).1) (by rw [List.length_take]; omega) S
    simp only [itmR] at ck
    simp (disch := first | omega | (simp only [lenT]; omega)) only [dT hlt, hcx, itmR, calR, decide_true, decide_false, Bool.not_true, Bool.not_false, evSt, ↓evPre, ↓evPreW, evPost, evPostW, evR, evU, seval]
    rw [if_pos (show (k : Int) ≤ c.its.length by omega)]
    simp (disch := first | omega | (simp only [lenT]; omega)) only [itmR, decide_true, decide_false, Bool.not_true, Bool.not_false, evSt, ↓evPre, ↓evPreW, evPost, evPostW, evR, evU, seval]
    refine (ck _).mono ?_
    rintro r S2 ⟨rfl, rfl⟩
    rw [drop_at hcx, itsErr] at he
    by_cases hz : itmErr (lastOf (c.its.take k)) x = 0
    · obtain ⟨o1, o2, o3, o4⟩ := itm_ok hz
      rw [if_pos hz] at he
      rw [hz]
      simp (disch := first | omega | (simp only [lenT]; omega)) only [wrap_i64, hk1, decide_true, decide_false, Bool.not_true, Bool.not_false, evSt, ↓evPre, ↓evPreW, evPost, evPostW, evR, evU, seval]
      exact ⟨k + 1, ⟨by omega, mem_next hg hcx ⟨sz_ne o1, o4⟩, by rw [lastOf_next hcx]; exact he⟩, by omega, back_under (hn.fgt _) (by simp only [itmR, calR, ↓evPre, ↓evPreW, evPost, evPostW, evR, evU, seval]; try rfl) (by simp [V.under, V.allUnder])⟩
    · rw [if_neg hz] at he
      simp (disch := first | omega | (simp only [lenT]; omega)) only [dF hz, decide_true, decide_false, Bool.not_true, Bool.not_false, evSt, ↓evPre, ↓evPreW, evPost, evPostW, evR, evU, seval]
      exact ⟨_, S, hn.fgt _, .imm rfl, Nat.le_refl _, by rw [he, if_neg hz], rfl⟩
  | none =>
    have hge : c.its.length ≤ k := List.getElem?_eq_none_iff.1 hcx
    have hlt : ¬ ((k : Int) < c.its.length) := by omega
    rw [List.take_of_length_le hge, List.drop_of_length_le hge] at he
    rw [List.take_of_length_le hge] at hg
    rw [if_pos (show itsErr none c.its = 0 from he)]
    clear hcx hge hk he
    simp (disch := first | omega | (simp only [lenT]; omega)) only [dF hlt, calR, decide_true, decide_false, Bool.not_true, Bool.not_false, evSt, ↓evPre, ↓evPreW, evPost, evPostW, evR, evU, seval]
    refine loopF (ι := Nat) (fun k => [(1, .cptr (calR c)), (43, .sl 2 (c.txs.map chgR)), (44, .int .i64 c.txs.length), (45, .int .i64 (k : Nat))]) (fun _ => S) (fun k => k ≤ c.txs.length ∧ (∀ y ∈ c.txs.take k, okB y.am = true) ∧ txsErr c.txs = txsErr (c.txs.drop k)) (fun k => c.txs.length - k) (fun i hi => by rw [hσ]; exact Nat.le_refl _) 0 ⟨Nat.zero_le _, fun y hy => by simp at hy, rfl⟩ (.inl ⟨?_, rfl⟩) ?_
    · simp only [calR, ↓evPre, ↓evPreW, evPost, evPostW, evR, evU, seval]
      try rfl
    clear hlt k
    rintro k ⟨hk, hg2, he⟩
    cases hcx : c.txs[k]? with
    | some x =>
      have hlt' := (List.getElem?_eq_some_iff.1 hcx).1
      have hlt : ((k : Int) < c.txs.length) := by omega
      have hk1 : (k : Int) + 1 = ((k + 1 : Nat) : Int) := by omega
      rw [drop_at hcx, txsErr] at he
      simp (disch := first | omega | (simp only [lenT]; omega)) only [dT hlt, hcx, chgR, calR, decide_true, decide_false, Bool.not_true, Bool.not_false, evSt, ↓evPre, ↓evPreW, evPost, evPostW, evR, evU, seval]
      refine (cd _ _).then ?_
      cases hco : codeF x.co 1 8 with
      | false =>
        have hz : txErr x = 5 := by unfold txErr; rw [hco]; rfl
        rw [hz, if_neg (by decide)] at he
        simp (disch := first | omega | (simp only [lenT]; omega)) only [decide_true, decide_false, Bool.not_true, Bool.not_false, evSt, ↓evPre, ↓evPreW, evPost, evPostW, evR, evU, seval]
        exact ⟨_, S, hn.fgt _, .imm rfl, Nat.le_refl _, by rw [he, if_neg (by decide)], rfl⟩
      | true =>
        simp (disch := first | omega | (simp only [lenT]; omega)) only [decide_true, decide_false, Bool.not_true, Bool.not_false, evSt, ↓evPre, ↓evPreW, evPost, evPostW, evR, evU, seval]
        refine (cm _ _).then ?_
        cases hok : okB x.am with
        | false =>
          have hz : txErr x = 11 := by unfold txErr; rw [hco, hok]; rfl
          rw [hz, if_neg (by decide)] at he
          simp (disch := first | omega | (simp only [lenT]; omega)) only [decide_true, decide_false, Bool.not_true, Bool.not_false, evSt, ↓evPre, ↓evPreW, evPost, evPostW, evR, evU, seval]
          exact ⟨_, S, hn.fgt _, .imm rfl, Nat.le_refl _, by rw [he, if_neg (by decide)], rfl⟩
        | true =>
          have hz : txErr x = 0 := by unfold txErr; rw [hco, hok]; rfl
          rw [if_pos hz] at he
          simp (disch := first | omega | (simp only [lenT]; omega)) only [wrap_i64, hk1, decide_true, decide_false, Bool.not_true, Bool.not_false, evSt, ↓evPre, ↓evPreW, evPost, evPostW, evR, evU, seval]
          exact ⟨k + 1, ⟨by omega, mem_next hg2 hcx hok, he⟩, by omega, back_under (hn.fgt _) (by simp only [chgR, calR, ↓evPre, ↓evPreW, evPost, evPostW, evR, evU, seval]; try rfl) (by simp [V.under, V.allUnder])⟩
    | none =>
      have hge : c.txs.length ≤ k := List.getElem?_eq_none_iff.1 hcx
      have hlt : ¬ ((k : Int) < c.txs.length) := by omega
      rw [List.take_of_length_le hge] at hg2
      rw [List.drop_of_length_le hge] at he
      rw [if_pos (show txsErr c.txs = 0 from he)]
      have su := fun S => sums_A c (fun x hx => (hg x hx).2) hg2 (by omega) (by omega) S
      simp only [calR] at su
      simp (disch := first | omega | (simp only [lenT]; omega)) only [dF hlt, calR, decide_true, decide_false, Bool.not_true, Bool.not_false, evSt, ↓evPre, ↓evPreW, evPost, evPostW, evR, evU, seval]
      refine (su _).then ?_
      simp (disch := first | omega | (simp only [lenT]; omega)) only [decide_true, decide_false, Bool.not_true, Bool.not_false, evSt, ↓evPre, ↓evPreW, evPost, evPostW, evR, evU, seval]
      exact ⟨_, S, hn.self, .imm rfl, Nat.le_refl _, rfl, rfl⟩
end Go.Proofs.YtkdbghhdklfoiaaDoor
/- A call whose arguments are told as pure data, and which leaves the store as it was: nothing was written. -/
namespace Go.Proofs.YtkdbghhdklfoiaaDoor
open Go Go.AL Go.RowKit
set_option linter.unusedSectionVars false
variable [Go.AL.Mode] [Go.AL.LooseM]
set_option linter.unusedSimpArgs false
set_option linter.unusedVariables false
theorem dead_all {S : Store} (id : Nat) : dead (kill S) id := by
  have := dead_kill (S := []) (T := S) (id := id) (Nat.zero_le _)
  simpa using this
theorem lend {P : Program} {f : FuncId} {args args1 : List V} {S : Store} {k : IntKind} {n : Int} (h : CallA P f args1 (kill S) fun x S' => x = .int k n ∧ S' = kill S) (ha : All2 (Frz S (kill S)) args args1) : CallA P f args S fun x S' => x = .int k n ∧ S' = S := by
  have hne : Neat ([] : Store) := ⟨fun id ver e sz rows h => by simp at h, fun id ver m h => by simp at h⟩
  have hf : Fgt S (kill S) := by simpa using hne.killed S
  obtain ⟨h1, h2⟩ := ha.get
  refine ⟨h.1, fun ρ w us hi hv => ?_⟩
  refine (h.2 ρ w us (hi.forget hf) ⟨by rw [hv.1, h1], fun j v1 hj => ?_⟩).mono fun en w' ⟨ρ', S', r, u, e1, e2, e3, e4, e5⟩ => ?_
  · obtain ⟨x, hx, hk⟩ := h2 j v1 hj
    obtain ⟨u, hu, hr⟩ := hv.2 j x hx
    exact ⟨u, hu, hk.rel hf hi hr⟩
  · obtain ⟨rfl, rfl⟩ := e5
    cases e2
    have hb : Below w.heap.size w w' := ⟨e4.os, e4.tape.1, e4.output, e4.size, fun g hg => (e4.un g ⟨hg, fun id o c g' tot ho hc hr => by
      have := dead_all (S := S) id o ho
      rw [this] at hc
      cases hc⟩).2⟩
    exact ⟨ρ, S, _, _, e1, .int, inv_below hi hb, ext_below hb, rfl, rfl⟩
theorem Lst.lent {lo : Nat} {S : Store} {q : TypeId} {sz : Nat} {rows : List (List V)} {v : V} (h : Lst lo S q sz rows v) (hr : ∀ r ∈ rows, r.length = sz ∧ V.allImm r = true) : Frz S (kill S) v (.sl sz rows) := by
  rcases h with ⟨rfl, rfl⟩ | ⟨c, ver, h1, rfl, h3⟩
  · exact .nil
  · exact .dead (dead_all c) h3 rfl hr
end Go.Proofs.YtkdbghhdklfoiaaDoor
