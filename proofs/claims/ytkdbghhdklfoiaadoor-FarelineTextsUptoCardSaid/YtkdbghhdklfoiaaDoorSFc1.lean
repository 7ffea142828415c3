/- Places, cities, what is too big: taken over from component's texts by takecmp.py. -/
import Derived.Test.YtkdbghhdklfoiaaDoorSFcC
import Derived.Test.YtkdbghhdklfoiaaDoorSAlB
import Derived.Test.YtkdbghhdklfoiaaDoorSAlM
import Derived.Test.YtkdbghhdklfoiaaDoorSCn0
namespace Go.Proofs.YtkdbghhdklfoiaaDoor.Cm
open Go Go.AL
set_option linter.unusedSectionVars false
variable [Go.AL.Mode] [Go.AL.LooseM]
set_option linter.unusedSimpArgs false
set_option linter.unusedVariables false
abbrev Txt := List UInt8
structure Apt where
  code : Txt
  city : Txt
  cty : Txt
  off : Int
  sh : List (Int × Int)
  deriving DecidableEq, Inhabited
structure Dst where
  fr : Txt
  to : Txt
  mi : Int
  deriving DecidableEq, Inhabited
abbrev Pls := List Apt × List Dst
structure Pd where
  f : Int
  t : Int
  d : Int
  deriving DecidableEq, Inhabited
structure Lg where
  f : Txt
  t : Txt
  dep : Int
  arr : Int
  eq : Txt
  deriving DecidableEq, Inhabited
structure Fl where
  c : Txt
  n : Int
  p : Pd
  legs : List Lg
  deriving DecidableEq, Inhabited
structure Sg where
  c : Txt
  n : Int
  day : Int
  f : Txt
  t : Txt
  dep : Int
  arr : Int
  deriving DecidableEq, Inhabited
structure Ft where
  err : Int
  at_ : Txt
  deriving DecidableEq, Inhabited
def up (c : UInt8) : Bool := decide (65 ≤ c.toNat ∧ c.toNat ≤ 90)
def dig (c : UInt8) : Bool := decide (48 ≤ c.toNat ∧ c.toNat ≤ 57)
def codeF (s : Txt) (a b : Nat) : Bool := decide (a ≤ s.length ∧ s.length ≤ b) && s.all fun c => up c || dig c
def carF (s : Txt) : Bool := codeF s 2 2 && !s.all dig
theorem dT {p : Prop} [Decidable p] (h : p) : decide p = true := decide_eq_true h
theorem dF {p : Prop} [Decidable p] (h : ¬ p) : decide p = false := decide_eq_false h
theorem take_at {α : Type} {l : List α} {k : Nat} {x : α} (h : l[k]? = some x) : l.take (k + 1) = l.take k ++ [x] := by
  rw [List.take_add_one, h]
  rfl
theorem rup_A (c : UInt8) (S : Store) : CallA Tryd.prog 59 [.int .u8 c.toNat] S fun r S' => r = .bool (up c) ∧ S' = S := by
  refine CallA.keep Tryd.func59 c641 (Nat.le_of_ble_eq_true rfl) fun σ hσ => ?_
  by_cases h1 : (65 : Int) ≤ c.toNat
  · by_cases h2 : (c.toNat : Int) ≤ 90
    · have : up c = true := by unfold up; exact decide_eq_true ⟨by omega, by omega⟩
      simp only [a641, this, dT h1, dT h2, ↓evPre, ↓evPreW, evPost, evPostW, evR, evU, seval]
    · have : up c = false := by unfold up; exact decide_eq_false (fun h => by omega)
      simp only [a641, this, dT h1, dF h2, ↓evPre, ↓evPreW, evPost, evPostW, evR, evU, seval]
  · have : up c = false := by unfold up; exact decide_eq_false (fun h => by omega)
    simp only [a641, this, dF h1, ↓evPre, ↓evPreW, evPost, evPostW, evR, evU, seval]
theorem all_at {l : Txt} {q : UInt8 → Bool} {k : Nat} {c : UInt8} (hc : l[k]? = some c) : (l.drop k).all q = (q c && (l.drop (k + 1)).all q) := by
  have e : l.drop k = c :: l.drop (k + 1) := by
    obtain ⟨hlt, rfl⟩ := List.getElem?_eq_some_iff.1 hc
    exact List.drop_eq_getElem_cons hlt
  rw [e, List.all_cons]
theorem str_len {f : FuncId} {s : Txt} {rest : List V} {S : Store} {R : V → Store → Prop} (h : s.length ≤ maxLen → CallA Tryd.prog f (.str s :: rest) S R) (h0 : callable Tryd.prog f) : CallA Tryd.prog f (.str s :: rest) S R :=
  ⟨h0, fun ρ w us hi hv => by
    obtain ⟨u, _, hu⟩ := hv.2 0 _ rfl
    cases hu with
    | str h1 h2 => exact (h (by rw [← h1]; simpa using h2)).2 ρ w us hi hv⟩
def txC : Txt := [99, 97, 114, 114, 105, 101, 114]
def txN : Txt := [110, 117, 109, 98, 101, 114]
def hd1 (x : Fl) : List Ft := if carF x.c then [] else [⟨5, txC⟩]
def hd2 (x : Fl) : List Ft := hd1 x ++ if x.n < 1 ∨ 9999 < x.n then [⟨2, txN⟩] else []
def letF (s : Txt) (n : Nat) : Bool := s.all up && decide (s.length = n)
theorem letters_A (s : Txt) (n : Nat) (hs : s.length ≤ 9223372036854775807) (S : Store) : CallA Tryd.prog 90 [.str s, .int .i64 (n : Nat)] S fun r S' => r = .bool (letF s n) ∧ S' = S := by
  refine CallA.keep Tryd.func90 c658 (Nat.le_of_ble_eq_true rfl) fun σ hσ => ?_
  simp (disch := first | omega | (simp only [lenT]; omega)) only [a658, evSt, ↓evPre, ↓evPreW, evPost, evPostW, evR, evU, seval]
  refine loopA (ι := Nat) (fun k => [(0, .str s), (1, .int .i64 (n : Nat)), (5, .int .i64 (k : Nat))]) (fun _ => S) (fun k => k ≤ s.length ∧ (s.all up) = ((s.drop k).all up)) (fun k => s.length - k) 0 ⟨Nat.zero_le _, rfl⟩ ?_ rfl ?_
  · simp only [↓evPre, ↓evPreW, evPost, evPostW, evR, evU, seval]
  rintro k ⟨hk, he⟩
  unfold letF
  cases hc : s[k]? with
  | none =>
    have hge : s.length ≤ k := List.getElem?_eq_none_iff.1 hc
    have hlt : ¬ ((k : Int) < s.length) := by omega
    rw [List.drop_eq_nil_of_le hge] at he
    rw [he]
    by_cases h1 : s.length = n
    · have h1' : (s.length : Int) = n := by omega
      simp (disch := first | omega | (simp only [lenT]; omega)) only [dF hlt, dT h1', dT h1, List.all_nil, Bool.and_self, evSt, ↓evPre, ↓evPreW, evPost, evPostW, evR, evU, seval]
    · have h1' : ¬ (s.length : Int) = n := by omega
      simp (disch := first | omega | (simp only [lenT]; omega)) only [dF hlt, dF h1', dF h1, Bool.and_false, evSt, ↓evPre, ↓evPreW, evPost, evPostW, evR, evU, seval]
  | some c =>
    have hlt' := (List.getElem?_eq_some_iff.1 hc).1
    have hlt : (k : Int) < s.length := by omega
    have hk1 : (k : Int) + 1 = ((k + 1 : Nat) : Int) := by omega
    rw [all_at hc] at he
    simp (disch := first | omega | (simp only [lenT]; omega)) only [dT hlt, hc, evSt, ↓evPre, ↓evPreW, evPost, evPostW, evR, evU, seval]
    refine (rup_A c S).then ?_
    cases h : up c with
    | true =>
      rw [h, Bool.true_and] at he
      simp (disch := first | omega | (simp only [lenT]; omega)) only [wrap_i64, hk1, evSt, ↓evPre, ↓evPreW, evPost, evPostW, evR, evU, seval]
      exact ⟨k + 1, ⟨by omega, he⟩, by omega, rfl⟩
    | false =>
      rw [h, Bool.false_and] at he
      simp (disch := first | omega | (simp only [lenT]; omega)) only [he, Bool.false_and, evSt, ↓evPre, ↓evPreW, evPost, evPostW, evR, evU, seval]
def txR (s : Txt) : List V := [.str s]
inductive Cnd where
  | mk (k : Int) (l : List Cnd) (a b : Int) (p : Pd) (tx : List Txt)
mutual
def Cnd.row : Cnd → List V
  | .mk k l a b p tx => [.int .i64 k, .sl 8 (Cnd.rows l), .int .i64 a, .int .i64 b, .int .i64 p.f, .int .i64 p.t, .int .i64 p.d, .sl 1 (tx.map txR)]
def Cnd.rows : List Cnd → List (List V)
  | [] => []
  | c :: l => c.row :: Cnd.rows l
end
structure Trp where
  ty : Txt
  sale : Int
  day : Int
  min : Int
  stops : Int
  trans : Int
  cars : List Txt
  nums : List Int
  vias : List Txt
structure Wnt where
  s : Sg
  cl : Txt
structure Fr where
  c : Txt
  f : Txt
  t : Txt
  bas : Txt
  cl : Txt
  rnd : Bool
  am : Int
  rule : Int
  rout : Int
structure Rul where
  n : Int
  w : Cnd
  comb : List Int
  mn : Int
  mx : Int
  ch : Int
  rf : Int
  per : List (Txt × Int)
structure Rou where
  n : Int
  links : List (Txt × Txt)
  mi : Int
end Go.Proofs.YtkdbghhdklfoiaaDoor.Cm
