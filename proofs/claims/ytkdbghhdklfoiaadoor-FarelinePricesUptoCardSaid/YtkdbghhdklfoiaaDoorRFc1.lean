/- Places, cities, what is too big: taken over from component's texts by takecmp.py. -/
import Derived.Test.YtkdbghhdklfoiaaDoorRFcC
import Derived.Test.YtkdbghhdklfoiaaDoorRAlB
import Derived.Test.YtkdbghhdklfoiaaDoorRAlM
import Derived.Test.YtkdbghhdklfoiaaDoorRCn0
namespace Go.Proofs.YtkdbghhdklfoiaaDoor.Cm
open Go Go.AL
set_option linter.unusedSectionVars false
variable [Go.AL.Mode] [Go.AL.LooseM]
set_option linter.unusedSimpArgs false
set_option linter.unusedVariables false
abbrev Txt := List UInt8
structure Apt where
  code : Txt
  city : Txt
  cty : Txt
  off : Int
  sh : List (Int × Int)
  deriving DecidableEq, Inhabited
structure Dst where
  fr : Txt
  to : Txt
  mi : Int
  deriving DecidableEq, Inhabited
abbrev Pls := List Apt × List Dst
structure Pd where
  f : Int
  t : Int
  d : Int
  deriving DecidableEq, Inhabited
structure Lg where
  f : Txt
  t : Txt
  dep : Int
  arr : Int
  eq : Txt
  deriving DecidableEq, Inhabited
structure Fl where
  c : Txt
  n : Int
  p : Pd
  legs : List Lg
  deriving DecidableEq, Inhabited
structure Sg where
  c : Txt
  n : Int
  day : Int
  f : Txt
  t : Txt
  dep : Int
  arr : Int
  deriving DecidableEq, Inhabited
structure Ft where
  err : Int
  at_ : Txt
  deriving DecidableEq, Inhabited
def shR (p : Int × Int) : List V := [.int .i64 p.1, .int .i64 p.2]
def aptR (a : Apt) : List V := [.str a.code, .str a.city, .str a.cty, .int .i64 a.off, .sl 2 (a.sh.map shR)]
def dstR (d : Dst) : List V := [.str d.fr, .str d.to, .int .i64 d.mi]
def plV (p : Pls) : V := .agg [.sl 5 (p.1.map aptR), .sl 3 (p.2.map dstR)]
def sgR (x : Sg) : List V := [.str x.c, .int .i64 x.n, .int .i64 x.day, .str x.f, .str x.t, .int .i64 x.dep, .int .i64 x.arr]
def ftR (x : Ft) : List V := [.int .i64 x.err, .str x.at_]
def inR (n : Int) : List V := [.int .i64 n]
def up (c : UInt8) : Bool := decide (65 ≤ c.toNat ∧ c.toNat ≤ 90)
def dig (c : UInt8) : Bool := decide (48 ≤ c.toNat ∧ c.toNat ≤ 57)
def codeF (s : Txt) (a b : Nat) : Bool := decide (a ≤ s.length ∧ s.length ≤ b) && s.all fun c => up c || dig c
def carF (s : Txt) : Bool := codeF s 2 2 && !s.all dig
theorem dT {p : Prop} [Decidable p] (h : p) : decide p = true := decide_eq_true h
theorem dF {p : Prop} [Decidable p] (h : ¬ p) : decide p = false := decide_eq_false h
theorem inR_imm (l : List Int) : ∀ r ∈ l.map inR, r.length = 1 ∧ V.allImm r = true := fun r hr => by
  obtain ⟨d, _, rfl⟩ := List.mem_map.1 hr
  exact ⟨rfl, rfl⟩
def noApt : List V := [.str [], .str [], .str [], .int .i64 0, .nilSl]
def findR (o : Option Apt) : V := match o with
  | some a => .tup [.agg (aptR a), .bool true]
  | none => .tup [.agg noApt, .bool false]
theorem find_next {α : Type} {l : List α} {q : α → Bool} {k : Nat} {a : α} (h : l.find? q = (l.drop k).find? q) (ha : l[k]? = some a) (hq : q a = false) : l.find? q = (l.drop (k + 1)).find? q := by
  have e : l.drop k = a :: l.drop (k + 1) := by
    obtain ⟨hlt, rfl⟩ := List.getElem?_eq_some_iff.1 ha
    exact List.drop_eq_getElem_cons hlt
  rw [h, e, List.find?_cons_of_neg (by simp [hq])]
theorem find_end {α : Type} {l : List α} {q : α → Bool} {k : Nat} (h : l.find? q = (l.drop k).find? q) (ha : l[k]? = none) : l.find? q = none := by
  rw [h, List.drop_eq_nil_of_le (List.getElem?_eq_none_iff.1 ha)]
  rfl
theorem take_at {α : Type} {l : List α} {k : Nat} {x : α} (h : l[k]? = some x) : l.take (k + 1) = l.take k ++ [x] := by
  rw [List.take_add_one, h]
  rfl
theorem find_hit {α : Type} {l : List α} {q : α → Bool} {k : Nat} {a : α} (h : l.find? q = (l.drop k).find? q) (ha : l[k]? = some a) (hq : q a = true) : l.find? q = some a := by
  have e : l.drop k = a :: l.drop (k + 1) := by
    obtain ⟨hlt, rfl⟩ := List.getElem?_eq_some_iff.1 ha
    exact List.drop_eq_getElem_cons hlt
  rw [h, e, List.find?_cons_of_pos hq]
def decB (n : Nat) : Txt := if n < 10 then [UInt8.ofNat (48 + n)] else [UInt8.ofNat (48 + n / 10), UInt8.ofNat (48 + n % 10)]
def dg10 : Txt := [48, 49, 50, 51, 52, 53, 54, 55, 56, 57]
theorem dg10_at {n : Nat} (h : n < 10) : (dg10.drop n).take 1 = decB n := by
  have : ∀ n : Fin 10, (dg10.drop n.val).take 1 = decB n.val := by decide +kernel
  exact this ⟨n, h⟩
theorem digit_A (n : Nat) (S : Store) (hn : n < 10) : CallA Tryd.prog 79 [.int .u64 n] S fun r S' => r = .str (decB n) ∧ S' = S := by
  refine CallA.keep Tryd.func79 c595 (Nat.le_of_ble_eq_true rfl) fun σ hσ => ?_
  have h' : (n : Int) < 10 := by omega
  have hc : (n : Int) + 1 = ((n + 1 : Nat) : Int) := by omega
  have hs : cutS [48, 49, 50, 51, 52, 53, 54, 55, 56, 57] (some (n : Int)) (some ((n + 1 : Nat) : Int)) = some (.str (decB n)) := by
    rw [cutS_some, if_pos ⟨by omega, by omega, by simp only [List.length_cons, List.length_nil]; omega⟩, ← dg10_at hn, Int.toNat_natCast, Int.toNat_natCast, Nat.add_sub_cancel_left]
    rfl
  simp (disch := omega) only [a595, h', hc, hs, wrap_u64, decide_true, ↓evPre, ↓evPreW, evPost, evPostW, evR, evU, seval]
theorem rup_A (c : UInt8) (S : Store) : CallA Tryd.prog 59 [.int .u8 c.toNat] S fun r S' => r = .bool (up c) ∧ S' = S := by
  refine CallA.keep Tryd.func59 c641 (Nat.le_of_ble_eq_true rfl) fun σ hσ => ?_
  by_cases h1 : (65 : Int) ≤ c.toNat
  · by_cases h2 : (c.toNat : Int) ≤ 90
    · have : up c = true := by unfold up; exact decide_eq_true ⟨by omega, by omega⟩
      simp only [a641, this, dT h1, dT h2, ↓evPre, ↓evPreW, evPost, evPostW, evR, evU, seval]
    · have : up c = false := by unfold up; exact decide_eq_false (fun h => by omega)
      simp only [a641, this, dT h1, dF h2, ↓evPre, ↓evPreW, evPost, evPostW, evR, evU, seval]
  · have : up c = false := by unfold up; exact decide_eq_false (fun h => by omega)
    simp only [a641, this, dF h1, ↓evPre, ↓evPreW, evPost, evPostW, evR, evU, seval]
theorem all_at {l : Txt} {q : UInt8 → Bool} {k : Nat} {c : UInt8} (hc : l[k]? = some c) : (l.drop k).all q = (q c && (l.drop (k + 1)).all q) := by
  have e : l.drop k = c :: l.drop (k + 1) := by
    obtain ⟨hlt, rfl⟩ := List.getElem?_eq_some_iff.1 hc
    exact List.drop_eq_getElem_cons hlt
  rw [e, List.all_cons]
theorem str_len {f : FuncId} {s : Txt} {rest : List V} {S : Store} {R : V → Store → Prop} (h : s.length ≤ maxLen → CallA Tryd.prog f (.str s :: rest) S R) (h0 : callable Tryd.prog f) : CallA Tryd.prog f (.str s :: rest) S R :=
  ⟨h0, fun ρ w us hi hv => by
    obtain ⟨u, _, hu⟩ := hv.2 0 _ rfl
    cases hu with
    | str h1 h2 => exact (h (by rw [← h1]; simpa using h2)).2 ρ w us hi hv⟩
def txC : Txt := [99, 97, 114, 114, 105, 101, 114]
def txN : Txt := [110, 117, 109, 98, 101, 114]
def hd1 (x : Fl) : List Ft := if carF x.c then [] else [⟨5, txC⟩]
def hd2 (x : Fl) : List Ft := hd1 x ++ if x.n < 1 ∨ 9999 < x.n then [⟨2, txN⟩] else []
theorem ftR_imm (l : List Ft) : ∀ r ∈ l.map ftR, r.length = 2 ∧ V.allImm r = true := fun r hr => by
  obtain ⟨x, _, rfl⟩ := List.mem_map.1 hr
  exact ⟨rfl, rfl⟩
def dg (n : Nat) : Txt := [UInt8.ofNat (48 + n)]
def digX : Nat → Nat → Txt
  | 0, n => dg n
  | k + 1, n => if n < 10 then dg n else digX k (n / 10) ++ dg (n % 10)
theorem digX_len : ∀ k n, (digX k n).length ≤ k + 1
  | 0, n => by simp [digX, dg]
  | k + 1, n => by
    rw [digX]
    split
    · simp [dg]
    · have := digX_len k (n / 10)
      simp only [List.length_append, dg, List.length_cons, List.length_nil]
      omega
theorem digX_A : ∀ (k n : Nat) (S : Store), k ≤ 40 → n < 10 ^ (k + 1) → n < 18446744073709551616 → CallA Tryd.prog 79 [.int .u64 n] S fun r S' => r = .str (digX k n) ∧ S' = S
  | 0, n, S, hk40, hn, h64 => by
    have h := digit_A n S (by simpa using hn)
    rw [show decB n = digX 0 n by unfold decB digX dg; rw [if_pos (by simpa using hn)]] at h
    exact h
  | k + 1, n, S, hk40, hn, h64 => by
    by_cases h : n < 10
    · have h1 := digit_A n S h
      rw [show decB n = digX (k + 1) n by unfold decB digX dg; rw [if_pos h, if_pos h]] at h1
      exact h1
    refine CallA.keep Tryd.func79 c595 (Nat.le_of_ble_eq_true rfl) fun σ hσ => ?_
    have h' : ¬ (n : Int) < 10 := by omega
    have e1 : (n : Int).tdiv 10 = ((n / 10 : Nat) : Int) := by rw [Int.tdiv_eq_ediv_of_nonneg (by omega)]; omega
    have e2 : (n : Int).tmod 10 = ((n % 10 : Nat) : Int) := by rw [Int.tmod_eq_emod_of_nonneg (by omega)]; omega
    have hc : ((n % 10 : Nat) : Int) + 1 = ((n % 10 + 1 : Nat) : Int) := by omega
    have hs : cutS [48, 49, 50, 51, 52, 53, 54, 55, 56, 57] (some ((n % 10 : Nat) : Int)) (some ((n % 10 + 1 : Nat) : Int)) = some (.str (dg (n % 10))) := by
      have h10 : n % 10 < 10 := by omega
      rw [show dg (n % 10) = decB (n % 10) by unfold decB dg; rw [if_pos h10]]
      rw [cutS_some, if_pos ⟨by omega, by omega, by simp only [List.length_cons, List.length_nil]; omega⟩, ← dg10_at h10, Int.toNat_natCast, Int.toNat_natCast, Nat.add_sub_cancel_left]
      rfl
    have ha : binV .add (.str (digX k (n / 10))) (.str (dg (n % 10))) = some (.str (digX k (n / 10) ++ dg (n % 10))) := bs_add (by have := digX_len k (n / 10); have : (dg (n % 10)).length = 1 := rfl; unfold maxLen; omega)
    have he : digX (k + 1) n = digX k (n / 10) ++ dg (n % 10) := by rw [digX, if_neg h]
    have hp : n / 10 < 10 ^ (k + 1) := by
      rw [Nat.div_lt_iff_lt_mul (by omega)]
      rwa [Nat.pow_succ] at hn
    simp (disch := omega) only [a595, h', e1, e2, hc, hs, wrap_u64, decide_false, ↓evPre, ↓evPreW, evPost, evPostW, evR, evU, seval]
    refine (digX_A k (n / 10) S (by omega) hp (by omega)).then ?_
    simp (disch := omega) only [h', e1, e2, hc, hs, he, ha, wrap_u64, decide_false, ↓evPre, ↓evPreW, evPost, evPostW, evR, evU, seval]
def decX (n : Nat) : Txt := digX 19 n
theorem decX_len (n : Nat) : (decX n).length ≤ 20 := digX_len 19 n
theorem decX_A (n : Nat) (hn : n < 4294967296) (S : Store) : CallA Tryd.prog 48 [.int .i64 n] S fun r S' => r = .str (decX n) ∧ S' = S := by
  refine CallA.keep Tryd.func48 c550 (Nat.le_of_ble_eq_true rfl) fun σ hσ => ?_
  have h' : ¬ (n : Int) < 0 := by omega
  simp (disch := omega) only [a550, h', wrap_u64, decide_false, ↓evPre, ↓evPreW, evPost, evPostW, evR, evU, seval]
  refine (digX_A 19 n S (by omega) (by omega) (by omega)).then ?_
  simp only [decX, ↓evPre, ↓evPreW, evPost, evPostW, evR, evU, seval]
def letF (s : Txt) (n : Nat) : Bool := s.all up && decide (s.length = n)
theorem letters_A (s : Txt) (n : Nat) (hs : s.length ≤ 9223372036854775807) (S : Store) : CallA Tryd.prog 90 [.str s, .int .i64 (n : Nat)] S fun r S' => r = .bool (letF s n) ∧ S' = S := by
  refine CallA.keep Tryd.func90 c658 (Nat.le_of_ble_eq_true rfl) fun σ hσ => ?_
  simp (disch := first | omega | (simp only [lenT]; omega)) only [a658, evSt, ↓evPre, ↓evPreW, evPost, evPostW, evR, evU, seval]
  refine loopA (ι := Nat) (fun k => [(0, .str s), (1, .int .i64 (n : Nat)), (5, .int .i64 (k : Nat))]) (fun _ => S) (fun k => k ≤ s.length ∧ (s.all up) = ((s.drop k).all up)) (fun k => s.length - k) 0 ⟨Nat.zero_le _, rfl⟩ ?_ rfl ?_
  · simp only [↓evPre, ↓evPreW, evPost, evPostW, evR, evU, seval]
  rintro k ⟨hk, he⟩
  unfold letF
  cases hc : s[k]? with
  | none =>
    have hge : s.length ≤ k := List.getElem?_eq_none_iff.1 hc
    have hlt : ¬ ((k : Int) < s.length) := by omega
    rw [List.drop_eq_nil_of_le hge] at he
    rw [he]
    by_cases h1 : s.length = n
    · have h1' : (s.length : Int) = n := by omega
      simp (disch := first | omega | (simp only [lenT]; omega)) only [dF hlt, dT h1', dT h1, List.all_nil, Bool.and_self, evSt, ↓evPre, ↓evPreW, evPost, evPostW, evR, evU, seval]
    · have h1' : ¬ (s.length : Int) = n := by omega
      simp (disch := first | omega | (simp only [lenT]; omega)) only [dF hlt, dF h1', dF h1, Bool.and_false, evSt, ↓evPre, ↓evPreW, evPost, evPostW, evR, evU, seval]
  | some c =>
    have hlt' := (List.getElem?_eq_some_iff.1 hc).1
    have hlt : (k : Int) < s.length := by omega
    have hk1 : (k : Int) + 1 = ((k + 1 : Nat) : Int) := by omega
    rw [all_at hc] at he
    simp (disch := first | omega | (simp only [lenT]; omega)) only [dT hlt, hc, evSt, ↓evPre, ↓evPreW, evPost, evPostW, evR, evU, seval]
    refine (rup_A c S).then ?_
    cases h : up c with
    | true =>
      rw [h, Bool.true_and] at he
      simp (disch := first | omega | (simp only [lenT]; omega)) only [wrap_i64, hk1, evSt, ↓evPre, ↓evPreW, evPost, evPostW, evR, evU, seval]
      exact ⟨k + 1, ⟨by omega, he⟩, by omega, rfl⟩
    | false =>
      rw [h, Bool.false_and] at he
      simp (disch := first | omega | (simp only [lenT]; omega)) only [he, Bool.false_and, evSt, ↓evPre, ↓evPreW, evPost, evPostW, evR, evU, seval]
theorem rairport_A (s : Txt) (S : Store) : CallA Tryd.prog 57 [.str s] S fun r S' => r = .bool (letF s 3) ∧ S' = S := by
  refine str_len (fun hs => ?_) ⟨_, Tryd.func57, by kernel_rfl, by kernel_rfl⟩
  refine CallA.keep Tryd.func57 c626 (Nat.le_of_ble_eq_true rfl) fun σ hσ => ?_
  have hl := letters_A s 3 (by unfold maxLen at hs; omega) S
  simp (disch := first | omega | (simp only [lenT]; omega)) only [a626, evSt, ↓evPre, ↓evPreW, evPost, evPostW, evR, evU, seval]
  refine hl.then ?_
  simp (disch := first | omega | (simp only [lenT]; omega)) only [evSt, ↓evPre, ↓evPreW, evPost, evPostW, evR, evU, seval]
theorem rcountry_A (s : Txt) (S : Store) : CallA Tryd.prog 77 [.str s] S fun r S' => r = .bool (letF s 2) ∧ S' = S := by
  refine str_len (fun hs => ?_) ⟨_, Tryd.func77, by kernel_rfl, by kernel_rfl⟩
  refine CallA.keep Tryd.func77 c627 (Nat.le_of_ble_eq_true rfl) fun σ hσ => ?_
  have hl := letters_A s 2 (by unfold maxLen at hs; omega) S
  simp (disch := first | omega | (simp only [lenT]; omega)) only [a627, evSt, ↓evPre, ↓evPreW, evPost, evPostW, evR, evU, seval]
  refine hl.then ?_
  simp (disch := first | omega | (simp only [lenT]; omega)) only [evSt, ↓evPre, ↓evPreW, evPost, evPostW, evR, evU, seval]
def offF (n : Int) : Bool := decide (-840 ≤ n) && decide (n ≤ 840)
theorem roffset_A (n : Int) (S : Store) : CallA Tryd.prog 95 [.int .i64 n] S fun r S' => r = .bool (offF n) ∧ S' = S := by
  refine CallA.keep Tryd.func95 c659 (Nat.le_of_ble_eq_true rfl) fun σ hσ => ?_
  unfold offF
  cases h : decide (-840 ≤ n) <;> simp (disch := first | omega | (simp only [lenT]; omega)) only [a659, h, Bool.true_and, Bool.false_and, evSt, ↓evPre, ↓evPreW, evPost, evPostW, evR, evU, seval]
theorem app_accL {S : Store} {n : Nat} {q : TypeId} {sz : Nat} {rows : List (List V)} {r : List V} {K : V → Store → Prop} (hn : n = S.length) (h : rows.length < 100000000) :
    appK q sz (accV n rows) (some (sz, [r])) (S ++ accT q sz rows) K = K (accV n (rows ++ [r])) (S ++ accT q sz (rows ++ [r])) := by
  subst hn
  cases rows with
  | nil =>
    simp only [accV, accT, List.append_nil, List.nil_append]
    rw [app_nil]
    simp [roomA]
  | cons x rows =>
    simp only [accV, accT, List.cons_append]
    rw [app_msl, ob_app0, ob_head, appO_some, se_app0]
    simp only [List.length_cons, List.length_append, List.length_nil, List.set_cons_zero, List.cons_append]
    simp only [List.length_cons] at h
    simp [roomA]
    intro _
    omega
theorem app_acc1 {S : Store} {x : AL.Obj} {n : Nat} {q : TypeId} {sz : Nat} {rows : List (List V)} {r : List V} {K : V → Store → Prop} (hn : n = S.length + 1) (h : rows.length < 100000000) :
    appK q sz (accV n rows) (some (sz, [r])) (S ++ x :: accT q sz rows) K = K (accV n (rows ++ [r])) (S ++ x :: accT q sz (rows ++ [r])) := by
  have := app_accL (S := S ++ [x]) (n := n) (q := q) (sz := sz) (rows := rows) (r := r) (K := K) (by simp [hn]) h
  simpa only [List.append_assoc, List.singleton_append] using this
theorem frz_acc1 {S : Store} {x : AL.Obj} {q : TypeId} {sz : Nat} {rows : List (List V)} (hr : ∀ r ∈ rows, r.length = sz ∧ V.allImm r = true) : Frz (S ++ x :: accT q sz rows) S (accV (S.length + 1) rows) (.sl sz rows) := by
  cases rows with
  | nil => exact .nil
  | cons y rows => exact .sl (t := q) (by omega) (by rw [ob_app, ob_cons, accT, ob_head]) (by simp) hr
theorem share_ix {P : Program} {N : Nat} {σ : Base} {G : Prop} {ι : Type} (H : ι → Prop) (E0 : ι → Env) (S0 : ι → Store) (b : ACode) (Q : Exit → Env → Store → Prop) (k2 : (∀ i, H i → LoopA P N σ b Q (E0 i) (S0 i)) → G) (k1 : ∀ i, H i → LoopA P N σ b Q (E0 i) (S0 i)) : G := k2 k1
def aptEs (es : List Int) (tw mv : Bool) (e : Int) : List Int := es ++ (if tw then [6] else []) ++ (if mv then [8] else []) ++ (if e = 0 then [] else [e])
theorem aptEs_len (es : List Int) (tw mv : Bool) (e : Int) : (aptEs es tw mv e).length ≤ es.length + 3 := by
  unfold aptEs
  by_cases h : e = 0 <;> cases tw <;> cases mv <;> simp [h]
def townF (p : Pls) (c : Txt) : Option Apt := p.1.find? fun a => decide (a.city = c)
theorem findT_at {l : List Apt} {q : Apt → Bool} {k : Nat} {a : Apt} (h : l.find? q = (l.drop k).find? q) (ha : l[k]? = some a) (hq : q a = true) : l.find? q = some a := find_hit h ha hq
theorem rtown_A (p : Pls) (c : Txt) (S : Store) (hl : p.1.length ≤ 2000000) : CallA Tryd.prog 80 [plV p, .str c] S fun r S' => r = findR (townF p c) ∧ S' = S := by
  refine CallA.withNeat Tryd.func80 c4039 fun hn => ?_
  refine CallA.fin Tryd.func80 c4039 (Nat.le_of_ble_eq_true rfl) fun σ hσ => ?_
  simp (disch := first | omega | (simp only [lenT]; omega)) only [a4039, plV, List.length_map, List.take_succ_cons, List.take_zero, evSt, ↓evPre, ↓evPreW, evPost, evPostW, ← List.map_take, ← List.map_drop, ↓reduceIte, reduceCtorEq, Nat.reduceEqDiff, forall_const, implies_true, Nat.reduceAdd, Nat.reduceSub, Nat.reduceMul, Nat.reduceLT, Nat.reduceLeDiff, Int.reduceToNat, Int.reduceAdd, Int.reduceSub, Int.reduceNeg, Int.reduceMul, Int.reduceLT, Int.reduceLE, Int.reduceEq]
  refine loopF (ι := Nat) (fun k => [(1, .str c), (2, .cptr [.sl 5 (p.1.map aptR), .sl 3 (p.2.map dstR)]), (4, .ptr S.length 0 0 0), (6, .int .i64 (k : Nat))]) (fun _ => S ++ [⟨0, some (.arr 130 5 [noApt])⟩]) (fun k => k ≤ p.1.length ∧ p.1.find? (fun a => decide (a.city = c)) = (p.1.drop k).find? (fun a => decide (a.city = c))) (fun k => p.1.length - k) (fun i hi => by rw [hσ]; simp) 0 ⟨Nat.zero_le _, rfl⟩ (.inl ⟨?_, rfl⟩) ?_
  · simp only [↓evPre, ↓evPreW, evPost, evPostW, ← List.map_take, ← List.map_drop, ↓reduceIte, reduceCtorEq, Nat.reduceEqDiff, forall_const, implies_true, Nat.reduceAdd, Nat.reduceSub, Nat.reduceMul, Nat.reduceLT, Nat.reduceLeDiff, Int.reduceToNat, Int.reduceAdd, Int.reduceSub, Int.reduceNeg, Int.reduceMul, Int.reduceLT, Int.reduceLE, Int.reduceEq]
  · rintro k ⟨hk, hinv⟩
    cases hc : p.1[k]? with
    | none =>
      have hlt : ¬ ((k : Int) < p.1.length) := by rw [List.getElem?_eq_none_iff] at hc; omega
      have hf : townF p c = none := find_end hinv hc
      simp (disch := first | omega | (simp only [lenT]; omega)) only [hf, findR, noApt, List.length_map, hlt, decide_false, List.take_succ_cons, List.take_zero, evSt, ↓evPre, ↓evPreW, evPost, evPostW, ← List.map_take, ← List.map_drop, ↓reduceIte, reduceCtorEq, Nat.reduceEqDiff, forall_const, implies_true, Nat.reduceAdd, Nat.reduceSub, Nat.reduceMul, Nat.reduceLT, Nat.reduceLeDiff, Int.reduceToNat, Int.reduceAdd, Int.reduceSub, Int.reduceNeg, Int.reduceMul, Int.reduceLT, Int.reduceLE, Int.reduceEq]
      exact ⟨_, S, hn.fgt _, .imm rfl, Nat.le_refl _, rfl, rfl⟩
    | some a =>
      have hlt' := (List.getElem?_eq_some_iff.1 hc).1
      have hlt : (k : Int) < p.1.length := by omega
      by_cases h : a.city = c
      · have he : decide (a.city = c) = true := by simp [h]
        have hf : townF p c = some a := findT_at hinv hc he
        simp (disch := first | omega | (simp only [lenT]; omega)) only [hf, findR, aptR, noApt, List.length_map, hc, hlt, he, decide_true, List.getElem?_map, Option.map_some, List.take_succ_cons, List.take_zero, evSt, ↓evPre, ↓evPreW, evPost, evPostW, ← List.map_take, ← List.map_drop, ↓reduceIte, reduceCtorEq, Nat.reduceEqDiff, forall_const, implies_true, Nat.reduceAdd, Nat.reduceSub, Nat.reduceMul, Nat.reduceLT, Nat.reduceLeDiff, Int.reduceToNat, Int.reduceAdd, Int.reduceSub, Int.reduceNeg, Int.reduceMul, Int.reduceLT, Int.reduceLE, Int.reduceEq]
        exact ⟨_, S, hn.fgt _, .imm rfl, Nat.le_refl _, rfl, rfl⟩
      · simp (disch := first | omega | (simp only [lenT]; omega)) only [aptR, noApt, List.length_map, wrap_i64, hc, hlt, h, decide_true, decide_false, List.getElem?_map, Option.map_some, List.take_succ_cons, List.take_zero, evSt, ↓evPre, ↓evPreW, evPost, evPostW, ← List.map_take, ← List.map_drop, ↓reduceIte, reduceCtorEq, Nat.reduceEqDiff, forall_const, implies_true, Nat.reduceAdd, Nat.reduceSub, Nat.reduceMul, Nat.reduceLT, Nat.reduceLeDiff, Int.reduceToNat, Int.reduceAdd, Int.reduceSub, Int.reduceNeg, Int.reduceMul, Int.reduceLT, Int.reduceLE, Int.reduceEq]
        exact ⟨k + 1, ⟨by omega, find_next hinv hc (by simp [h])⟩, by omega, .inl ⟨by simp only [↓evPre, ↓evPreW, evPost, evPostW, ← List.map_take, ← List.map_drop, ↓reduceIte, reduceCtorEq, Nat.reduceEqDiff, forall_const, implies_true, Nat.reduceAdd, Nat.reduceSub, Nat.reduceMul, Nat.reduceLT, Nat.reduceLeDiff, Int.reduceToNat, Int.reduceAdd, Int.reduceSub, Int.reduceNeg, Int.reduceMul, Int.reduceLT, Int.reduceLE, Int.reduceEq]; rfl, rfl⟩⟩
theorem apt_form (o : Option Apt) : ∃ c1 c2 c3 off sv, findR o = .tup [.agg [.str c1, .str c2, .str c3, .int .i64 off, sv], .bool o.isSome] ∧ sv.isImm = true ∧ sv.cellOk = true := by
  cases o with
  | none => exact ⟨[], [], [], 0, .nilSl, rfl, rfl, rfl⟩
  | some a => exact ⟨a.code, a.city, a.cty, a.off, .sl 2 (a.sh.map shR), rfl, rfl, rfl⟩
def useF (d : Dst) : Bool := decide (1 ≤ d.mi) && decide (d.mi ≤ 20000)
theorem ruse_A (d : Dst) (S : Store) : CallA Tryd.prog 81 [.agg (dstR d)] S fun r S' => r = .bool (useF d) ∧ S' = S := by
  refine CallA.keep Tryd.func81 c4031 (Nat.le_of_ble_eq_true rfl) fun σ hσ => ?_
  unfold useF
  cases h : decide (1 ≤ d.mi) <;> simp (disch := first | omega | (simp only [lenT]; omega)) only [a4031, dstR, h, Bool.true_and, Bool.false_and, List.take_succ_cons, List.take_zero, evSt, ↓evPre, ↓evPreW, evPost, evPostW, ← List.map_take, ← List.map_drop, ↓reduceIte, reduceCtorEq, Nat.reduceEqDiff, forall_const, implies_true, Nat.reduceAdd, Nat.reduceSub, Nat.reduceMul, Nat.reduceLT, Nat.reduceLeDiff, Int.reduceToNat, Int.reduceAdd, Int.reduceSub, Int.reduceNeg, Int.reduceMul, Int.reduceLT, Int.reduceLE, Int.reduceEq]
theorem fin_es {S L : Store} {x y z : AL.Obj} {v n : Nat} {es : List Int} (hn : n = es.length) : Frz (S ++ x :: y :: z :: ⟨v, some (.arr 52 1 (es.map inR))⟩ :: L) S (.msl (S.length + 3) v 0 n) (.sl 1 (es.map inR)) :=
  .sl (t := 52) (by omega) (by rw [ob_app, ob_cons, ob_cons, ob_cons, ob_head]) (by simp [hn]) (inR_imm es)
set_option maxHeartbeats 8000000 in
set_option maxRecDepth 10000 in
theorem rdst_A (p : Pls) (hp : p.1.length ≤ 2000000) (hp2 : p.2.length ≤ 2000000) (i : Nat) (d : Dst) (hd : p.2[i]? = some d) (S : Store) : CallA Tryd.prog 49 [plV p, .int .i64 (i : Nat)] S fun r S' => ∃ es : List Int, r = .sl 1 (es.map inR) ∧ es.length ≤ 4 ∧ S' = S := by
  refine CallA.withNeat Tryd.func49 c586 fun hn => ?_
  refine CallA.fin Tryd.func49 c586 (Nat.le_of_ble_eq_true rfl) fun σ hσ => ?_
  have hil := (List.getElem?_eq_some_iff.1 hd).1
  obtain ⟨c1, c2, c3, o1, v1, e1, i1, k1⟩ := apt_form (townF p d.fr)
  obtain ⟨c4, c5, c6, o2, v2, e2, i2, k2⟩ := apt_form (townF p d.to)
  have f1 := fun S => rtown_A p d.fr S hp
  have f2 := fun S => rtown_A p d.to S hp
  have fu := fun S => ruse_A d S
  simp only [plV, e1] at f1
  simp only [plV, e2] at f2
  simp only [dstR] at fu
  have r1 : (1 ≤ roomA) = True := by simp [roomA]
  have r2 : (2 ≤ roomA) = True := by simp [roomA]
  have r3 : (3 ≤ roomA) = True := by simp [roomA]
  simp (disch := first | omega | (simp only [lenT]; omega)) only [a586, plV, hd, dstR, List.length_map, List.getElem?_map, Option.map_some, List.take_succ_cons, List.take_zero, evSt, ↓evPre, ↓evPreW, evPost, evPostW, ← List.map_take, ← List.map_drop, ↓reduceIte, reduceCtorEq, Nat.reduceEqDiff, forall_const, implies_true, Nat.reduceAdd, Nat.reduceSub, Nat.reduceMul, Nat.reduceLT, Nat.reduceLeDiff, Int.reduceToNat, Int.reduceAdd, Int.reduceSub, Int.reduceNeg, Int.reduceMul, Int.reduceLT, Int.reduceLE, Int.reduceEq]
  refine (f1 _).then ?_
  simp (disch := first | omega | (simp only [lenT]; omega)) only [i1, k1, evSt, ↓evPre, ↓evPreW, evPost, evPostW, ← List.map_take, ← List.map_drop, ↓reduceIte, reduceCtorEq, Nat.reduceEqDiff, forall_const, implies_true, Nat.reduceAdd, Nat.reduceSub, Nat.reduceMul, Nat.reduceLT, Nat.reduceLeDiff, Int.reduceToNat, Int.reduceAdd, Int.reduceSub, Int.reduceNeg, Int.reduceMul, Int.reduceLT, Int.reduceLE, Int.reduceEq]
  refine (f2 _).then ?_
  apply share_ix (P := Tryd.prog) (N := 99) (σ := σ) (ι := Bool) (fun _ => True) (fun b => [(2, .cptr [.sl 5 (p.1.map aptR), .sl 3 (p.2.map dstR)]), (1, .int .i64 (i : Nat)), (5, if b then .msl (S.length + 3) 0 0 1 else .nilSl), (6, .ptr S.length 0 0 0), (11, .bool false), (12, .int .i64 0)])
    (fun b => S ++ ⟨0, some (.arr 134 3 [dstR d])⟩ :: ⟨0, some (.arr 130 5 [[.str c1, .str c2, .str c3, .int .i64 o1, v1]])⟩ :: ⟨0, some (.arr 130 5 [[.str c4, .str c5, .str c6, .int .i64 o2, v2]])⟩ :: if b then [⟨0, some (.arr 52 1 [[.int .i64 14]])⟩] else [])
  · intro key
    have kt := key true trivial
    have kf := key false trivial
    simp only [if_true, Bool.false_eq_true, if_false] at kt kf
    generalize (townF p d.fr).isSome = b1
    generalize (townF p d.to).isSome = b2
    cases b1 <;> cases b2 <;> simp (disch := first | omega | (simp only [lenT]; omega)) only [r1, true_and, i1, k1, i2, k2, evSt, ↓evPre, ↓evPreW, evPost, evPostW, ← List.map_take, ← List.map_drop, ↓reduceIte, reduceCtorEq, Nat.reduceEqDiff, forall_const, implies_true, Nat.reduceAdd, Nat.reduceSub, Nat.reduceMul, Nat.reduceLT, Nat.reduceLeDiff, Int.reduceToNat, Int.reduceAdd, Int.reduceSub, Int.reduceNeg, Int.reduceMul, Int.reduceLT, Int.reduceLE, Int.reduceEq]
    all_goals first
      | exact kt.sub (by simp only [↓evPre, ↓evPreW, evPost, evPostW, ← List.map_take, ← List.map_drop, ↓reduceIte, reduceCtorEq, Nat.reduceEqDiff, forall_const, implies_true, Nat.reduceAdd, Nat.reduceSub, Nat.reduceMul, Nat.reduceLT, Nat.reduceLeDiff, Int.reduceToNat, Int.reduceAdd, Int.reduceSub, Int.reduceNeg, Int.reduceMul, Int.reduceLT, Int.reduceLE, Int.reduceEq])
      | exact kf.sub (by simp only [↓evPre, ↓evPreW, evPost, evPostW, ← List.map_take, ← List.map_drop, ↓reduceIte, reduceCtorEq, Nat.reduceEqDiff, forall_const, implies_true, Nat.reduceAdd, Nat.reduceSub, Nat.reduceMul, Nat.reduceLT, Nat.reduceLeDiff, Int.reduceToNat, Int.reduceAdd, Int.reduceSub, Int.reduceNeg, Int.reduceMul, Int.reduceLT, Int.reduceLE, Int.reduceEq])
  · intro b _
    have him6 : ∀ r ∈ [dstR d], r.length = 3 ∧ V.allImm r = true := fun r hr => by rw [List.mem_singleton] at hr; subst hr; exact ⟨rfl, rfl⟩
    have him7 : ∀ r ∈ [[.str c1, .str c2, .str c3, .int .i64 o1, v1]], r.length = 5 ∧ V.allImm r = true := fun r hr => by rw [List.mem_singleton] at hr; subst hr; exact ⟨rfl, by simp [V.allImm, V.isImm, i1]⟩
    have him9 : ∀ r ∈ [[.str c4, .str c5, .str c6, .int .i64 o2, v2]], r.length = 5 ∧ V.allImm r = true := fun r hr => by rw [List.mem_singleton] at hr; subst hr; exact ⟨rfl, by simp [V.allImm, V.isImm, i2]⟩
    have him5 : ∀ r ∈ [[V.int .i64 14]], r.length = 1 ∧ V.allImm r = true := fun r hr => by rw [List.mem_singleton] at hr; subst hr; exact ⟨rfl, rfl⟩
    cases b
    case' false =>
      simp only [Bool.false_eq_true, if_false]
      refine loopF (ι := Nat × Bool) (fun k => [(2, .cptr [.sl 5 (p.1.map aptR), .sl 3 (p.2.map dstR)]), (1, .int .i64 (i : Nat)), (5, .nilSl), (6, .ptr S.length 0 0 0), (11, .bool k.2), (12, .int .i64 (k.1 : Nat))]) (fun _ => S ++ [⟨0, some (.arr 134 3 [dstR d])⟩, ⟨0, some (.arr 130 5 [[.str c1, .str c2, .str c3, .int .i64 o1, v1]])⟩, ⟨0, some (.arr 130 5 [[.str c4, .str c5, .str c6, .int .i64 o2, v2]])⟩]) (fun k => k.1 ≤ i) (fun k => i - k.1) (fun i hi => by rw [hσ]; simp) (0, false) (Nat.zero_le _) (.inl ⟨?_, rfl⟩) ?_
    case' true =>
      simp only [if_true]
      refine loopF (ι := Nat × Bool) (fun k => [(2, .cptr [.sl 5 (p.1.map aptR), .sl 3 (p.2.map dstR)]), (1, .int .i64 (i : Nat)), (5, .msl (S.length + 3) 0 0 1), (6, .ptr S.length 0 0 0), (11, .bool k.2), (12, .int .i64 (k.1 : Nat))]) (fun _ => S ++ [⟨0, some (.arr 134 3 [dstR d])⟩, ⟨0, some (.arr 130 5 [[.str c1, .str c2, .str c3, .int .i64 o1, v1]])⟩, ⟨0, some (.arr 130 5 [[.str c4, .str c5, .str c6, .int .i64 o2, v2]])⟩, ⟨0, some (.arr 52 1 [[.int .i64 14]])⟩]) (fun k => k.1 ≤ i) (fun k => i - k.1) (fun i hi => by rw [hσ]; simp) (0, false) (Nat.zero_le _) (.inl ⟨?_, rfl⟩) ?_
    all_goals try (simp only [↓evPre, ↓evPreW, evPost, evPostW, ← List.map_take, ← List.map_drop, ↓reduceIte, reduceCtorEq, Nat.reduceEqDiff, forall_const, implies_true, Nat.reduceAdd, Nat.reduceSub, Nat.reduceMul, Nat.reduceLT, Nat.reduceLeDiff, Int.reduceToNat, Int.reduceAdd, Int.reduceSub, Int.reduceNeg, Int.reduceMul, Int.reduceLT, Int.reduceLE, Int.reduceEq]; done)
    all_goals try (simp only [↓evPre, ↓evPreW, evPost, evPostW, ← List.map_take, ← List.map_drop, ↓reduceIte, reduceCtorEq, Nat.reduceEqDiff, forall_const, implies_true, Nat.reduceAdd, Nat.reduceSub, Nat.reduceMul, Nat.reduceLT, Nat.reduceLeDiff, Int.reduceToNat, Int.reduceAdd, Int.reduceSub, Int.reduceNeg, Int.reduceMul, Int.reduceLT, Int.reduceLE, Int.reduceEq]; rfl)
    all_goals
      rintro ⟨k, tw⟩ hk
      simp only at hk ⊢
      by_cases hki : k < i
      · have hlt : (k : Int) < i := by omega
        have hk1 : (k : Int) + 1 = ((k + 1 : Nat) : Int) := by omega
        obtain ⟨q, hq⟩ : ∃ q, p.2[k]? = some q := ⟨_, List.getElem?_eq_getElem (by omega)⟩
        obtain ⟨tw0, ht0⟩ : ∃ t, t = tw := ⟨_, rfl⟩
        cases tw <;> cases d1 : decide (q.fr = d.fr) <;> cases d2 : decide (q.to = d.to) <;> cases d3 : decide (q.fr = d.to) <;> cases d4 : decide (q.to = d.fr) <;> simp (disch := first | omega | (simp only [lenT]; omega)) only [dT hlt, hq, d1, d2, d3, d4, dstR, wrap_i64, hk1, List.length_map, List.getElem?_map, Option.map_some, List.take_succ_cons, List.take_zero, evSt, ↓evPre, ↓evPreW, evPost, evPostW, ← List.map_take, ← List.map_drop, ↓reduceIte, reduceCtorEq, Nat.reduceEqDiff, forall_const, implies_true, Nat.reduceAdd, Nat.reduceSub, Nat.reduceMul, Nat.reduceLT, Nat.reduceLeDiff, Int.reduceToNat, Int.reduceAdd, Int.reduceSub, Int.reduceNeg, Int.reduceMul, Int.reduceLT, Int.reduceLE, Int.reduceEq]
        all_goals
          refine ⟨(k + 1, tw0 || (decide (q.fr = d.fr) && decide (q.to = d.to)) || (decide (q.fr = d.to) && decide (q.to = d.fr))), by simp only; omega, by simp only; omega, back_under ?_ ?_ ?_⟩
          · first
              | exact hn.fgtL (L := [_, _, _, _]) (L1 := [_, _, _]) ⟨rfl, ⟨_, rfl, .imm him6⟩, rfl, ⟨_, rfl, .imm him7⟩, rfl, ⟨_, rfl, .imm him9⟩, trivial⟩
              | exact hn.fgtL (L := [_, _, _, _, _]) (L1 := [_, _, _, _]) ⟨rfl, ⟨_, rfl, .imm him6⟩, rfl, ⟨_, rfl, .imm him7⟩, rfl, ⟨_, rfl, .imm him9⟩, rfl, ⟨_, rfl, .imm him5⟩, trivial⟩
          · simp only [d1, d2, d3, d4, ht0, Bool.and_true, Bool.and_false, Bool.or_false, Bool.or_true, Bool.and_self, Bool.or_self, Bool.true_or, Bool.false_or, ↓evPre, ↓evPreW, evPost, evPostW, ← List.map_take, ← List.map_drop, ↓reduceIte, reduceCtorEq, Nat.reduceEqDiff, forall_const, implies_true, Nat.reduceAdd, Nat.reduceSub, Nat.reduceMul, Nat.reduceLT, Nat.reduceLeDiff, Int.reduceToNat, Int.reduceAdd, Int.reduceSub, Int.reduceNeg, Int.reduceMul, Int.reduceLT, Int.reduceLE, Int.reduceEq]
          · simp [V.under, V.allUnder]
      · have hlt : ¬ (k : Int) < i := by omega
        cases tw <;> simp (disch := first | omega | (simp only [lenT]; omega)) only [dF hlt, r1, r2, r3, true_and, dstR, evSt, ↓evPre, ↓evPreW, evPost, evPostW, ← List.map_take, ← List.map_drop, ↓reduceIte, reduceCtorEq, Nat.reduceEqDiff, forall_const, implies_true, Nat.reduceAdd, Nat.reduceSub, Nat.reduceMul, Nat.reduceLT, Nat.reduceLeDiff, Int.reduceToNat, Int.reduceAdd, Int.reduceSub, Int.reduceNeg, Int.reduceMul, Int.reduceLT, Int.reduceLE, Int.reduceEq]
        all_goals
          refine (fu _).then ?_
          cases hu : useF d <;> cases h5 : decide (d.fr = d.to) <;> simp (disch := first | omega | (simp only [lenT]; omega)) only [h5, r1, r2, r3, true_and, dstR, List.cons_append, List.nil_append, evSt, ↓evPre, ↓evPreW, evPost, evPostW, ← List.map_take, ← List.map_drop, ↓reduceIte, reduceCtorEq, Nat.reduceEqDiff, forall_const, implies_true, Nat.reduceAdd, Nat.reduceSub, Nat.reduceMul, Nat.reduceLT, Nat.reduceLeDiff, Int.reduceToNat, Int.reduceAdd, Int.reduceSub, Int.reduceNeg, Int.reduceMul, Int.reduceLT, Int.reduceLE, Int.reduceEq]
        all_goals first
          | exact ⟨_, S, hn.fgt _, .nil, Nat.le_refl _, [], rfl, by simp, rfl⟩
          | exact ⟨_, S, hn.fgt _, fin_es (es := [14]) rfl, Nat.le_refl _, [14], rfl, by simp, rfl⟩
          | exact ⟨_, S, hn.fgt _, fin_es (es := [6]) rfl, Nat.le_refl _, [6], rfl, by simp, rfl⟩
          | exact ⟨_, S, hn.fgt _, fin_es (es := [2]) rfl, Nat.le_refl _, [2], rfl, by simp, rfl⟩
          | exact ⟨_, S, hn.fgt _, fin_es (es := [14, 6]) rfl, Nat.le_refl _, [14, 6], rfl, by simp, rfl⟩
          | exact ⟨_, S, hn.fgt _, fin_es (es := [14, 2]) rfl, Nat.le_refl _, [14, 2], rfl, by simp, rfl⟩
          | exact ⟨_, S, hn.fgt _, fin_es (es := [6, 2]) rfl, Nat.le_refl _, [6, 2], rfl, by simp, rfl⟩
          | exact ⟨_, S, hn.fgt _, fin_es (es := [14, 6, 2]) rfl, Nat.le_refl _, [14, 6, 2], rfl, by simp, rfl⟩
def txApt : Txt := [97, 105, 114, 112, 111, 114, 116, 32]
def txDst : Txt := [100, 105, 115, 116, 97, 110, 99, 101, 32]
def txR (s : Txt) : List V := [.str s]
inductive Cnd where
  | mk (k : Int) (l : List Cnd) (a b : Int) (p : Pd) (tx : List Txt)
mutual
def Cnd.row : Cnd → List V
  | .mk k l a b p tx => [.int .i64 k, .sl 8 (Cnd.rows l), .int .i64 a, .int .i64 b, .int .i64 p.f, .int .i64 p.t, .int .i64 p.d, .sl 1 (tx.map txR)]
def Cnd.rows : List Cnd → List (List V)
  | [] => []
  | c :: l => c.row :: Cnd.rows l
end
theorem Cnd.rows_eq : ∀ l : List Cnd, Cnd.rows l = l.map Cnd.row
  | [] => rfl
  | c :: l => by rw [Cnd.rows, Cnd.rows_eq l]; rfl
structure Trp where
  ty : Txt
  sale : Int
  day : Int
  min : Int
  stops : Int
  trans : Int
  cars : List Txt
  nums : List Int
  vias : List Txt
structure Wnt where
  s : Sg
  cl : Txt
def wntR (w : Wnt) : List V := sgR w.s ++ [.str w.cl]
structure Fr where
  c : Txt
  f : Txt
  t : Txt
  bas : Txt
  cl : Txt
  rnd : Bool
  am : Int
  rule : Int
  rout : Int
def frR (f : Fr) : List V := [.str f.c, .str f.f, .str f.t, .str f.bas, .str f.cl, .bool f.rnd, .int .i64 f.am, .int .i64 f.rule, .int .i64 f.rout]
structure Rul where
  n : Int
  w : Cnd
  comb : List Int
  mn : Int
  mx : Int
  ch : Int
  rf : Int
  per : List (Txt × Int)
def perR (p : Txt × Int) : List V := [.str p.1, .int .i64 p.2]
def rulR (r : Rul) : List V := [.int .i64 r.n] ++ (r.w.row ++ [.sl 1 (r.comb.map inR), .int .i64 r.mn, .int .i64 r.mx, .int .i64 r.ch, .int .i64 r.rf, .sl 2 (r.per.map perR)])
structure Rou where
  n : Int
  links : List (Txt × Txt)
  mi : Int
def lnkR (p : Txt × Txt) : List V := [.str p.1, .str p.2]
def rouR (r : Rou) : List V := [.int .i64 r.n, .sl 2 (r.links.map lnkR), .int .i64 r.mi]
def ShOrd (l : List (Int × Int)) : Prop := l.Pairwise fun a b => a.1 < b.1
end Go.Proofs.YtkdbghhdklfoiaaDoor.Cm
