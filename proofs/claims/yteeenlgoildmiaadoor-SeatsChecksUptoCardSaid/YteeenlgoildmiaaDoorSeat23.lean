/- Numbers of any size; the list of violations beside an object that comes anew each round. -/
import Derived.Test.YteeenlgoildmiaaDoorSeat10
import Derived.Test.YteeenlgoildmiaaDoorSeatI
namespace Go.Proofs.YteeenlgoildmiaaDoor
open Go Go.AL
set_option linter.unusedSimpArgs false
set_option linter.unusedVariables false

theorem decD_small {n : Nat} (h : n < 10) : Lib.decDigits n = decB n := by rw [Lib.decDigits, dif_pos h, decB, if_pos h]
theorem decD_big {n : Nat} (h : ¬ n < 10) : Lib.decDigits n = Lib.decDigits (n / 10) ++ decB (n % 10) := by
  have g2 : n % 10 < 10 := by omega
  rw [Lib.decDigits, dif_neg h, decB, if_pos g2]
theorem decD_len {n : Nat} (h : n < 1000000000) : (Lib.decDigits n).length ≤ 10 := by
  have := Lib.itoa_length_le (n : Int) (by omega) (by omega)
  rw [Lib.decDigits_length]
  have key : ∀ (k u : Nat), u < 10 ^ (k + 1) → Lib.nDigits u ≤ k + 1 := by
    intro k
    induction k with
    | zero => intro u hu; rw [Lib.nDigits_small (by simpa using hu)]; omega
    | succ k ih =>
      intro u hu
      by_cases hs : u < 10
      · rw [Lib.nDigits_small hs]; omega
      · rw [Lib.nDigits_big hs]
        have := ih (u / 10) (by rw [Nat.pow_succ] at hu; omega)
        omega
  exact key 9 n (by omega)

theorem digitsG_A (n : Nat) (S : Store) (hn : n < 1000000000) : CallA Tryd.prog 40 [.int .u64 n] S fun r S' => r = .str (Lib.decDigits n) ∧ S' = S := by
  induction n using Nat.strongRecOn with
  | _ n ih =>
  by_cases h : n < 10
  · rw [decD_small h]; exact digit_A n S h
  refine CallA.keep Tryd.func40 c40 (Nat.le_of_ble_eq_true rfl) fun σ hσ => ?_
  have h' : ¬ (n : Int) < 10 := by omega
  have e1 : (n : Int).tdiv 10 = ((n / 10 : Nat) : Int) := by rw [Int.tdiv_eq_ediv_of_nonneg (by omega)]; omega
  have e2 : (n : Int).tmod 10 = ((n % 10 : Nat) : Int) := by rw [Int.tmod_eq_emod_of_nonneg (by omega)]; omega
  have hc : ((n % 10 : Nat) : Int) + 1 = ((n % 10 + 1 : Nat) : Int) := by omega
  have hs : cutS [48, 49, 50, 51, 52, 53, 54, 55, 56, 57] (some ((n % 10 : Nat) : Int)) (some ((n % 10 + 1 : Nat) : Int)) = some (.str (decB (n % 10))) := by
    have h10 : n % 10 < 10 := by omega
    rw [cutS_some, if_pos ⟨by omega, by omega, by simp only [List.length_cons, List.length_nil]; omega⟩, ← dg10_at h10, Int.toNat_natCast, Int.toNat_natCast, Nat.add_sub_cancel_left]
    rfl
  have ha : binV .add (.str (Lib.decDigits (n / 10))) (.str (decB (n % 10))) = some (.str (Lib.decDigits (n / 10) ++ decB (n % 10))) := bs_add (by have := decD_len (n := n / 10) (by omega); have := decB_len (n % 10); unfold maxLen; omega)
  have he := decD_big h
  simp (disch := omega) only [a40, h', e1, e2, hc, hs, wrap_u64, decide_false, ↓evPre, ↓evPreW, evPost, evPostW, ← List.map_take, ← List.map_drop, ↓reduceIte, reduceCtorEq, Nat.reduceEqDiff, forall_const, implies_true, Nat.reduceAdd, Nat.reduceSub, Nat.reduceMul, Nat.reduceLT, Nat.reduceLeDiff, Int.reduceToNat, Int.reduceAdd, Int.reduceSub, Int.reduceNeg, Int.reduceMul, Int.reduceLT, Int.reduceLE, Int.reduceEq]
  refine (ih (n / 10) (by omega) (by omega)).then ?_
  simp (disch := omega) only [h', e1, e2, hc, hs, he, ha, wrap_u64, decide_false, ↓evPre, ↓evPreW, evPost, evPostW, ← List.map_take, ← List.map_drop, ↓reduceIte, reduceCtorEq, Nat.reduceEqDiff, forall_const, implies_true, Nat.reduceAdd, Nat.reduceSub, Nat.reduceMul, Nat.reduceLT, Nat.reduceLeDiff, Int.reduceToNat, Int.reduceAdd, Int.reduceSub, Int.reduceNeg, Int.reduceMul, Int.reduceLT, Int.reduceLE, Int.reduceEq]

theorem decimalG_A (n : Nat) (S : Store) (hn : n < 1000000000) : CallA Tryd.prog 32 [.int .i64 n] S fun r S' => r = .str (Lib.decDigits n) ∧ S' = S := by
  refine CallA.keep Tryd.func32 c32 (Nat.le_of_ble_eq_true rfl) fun σ hσ => ?_
  have h' : ¬ (n : Int) < 0 := by omega
  simp (disch := omega) only [a32, h', wrap_u64, decide_false, ↓evPre, ↓evPreW, evPost, evPostW, ← List.map_take, ← List.map_drop, ↓reduceIte, reduceCtorEq, Nat.reduceEqDiff, forall_const, implies_true, Nat.reduceAdd, Nat.reduceSub, Nat.reduceMul, Nat.reduceLT, Nat.reduceLeDiff, Int.reduceToNat, Int.reduceAdd, Int.reduceSub, Int.reduceNeg, Int.reduceMul, Int.reduceLT, Int.reduceLE, Int.reduceEq]
  refine (digitsG_A n S hn).then ?_
  simp only [↓evPre, ↓evPreW, evPost, evPostW, ← List.map_take, ← List.map_drop, ↓reduceIte, reduceCtorEq, Nat.reduceEqDiff, forall_const, implies_true, Nat.reduceAdd, Nat.reduceSub, Nat.reduceMul, Nat.reduceLT, Nat.reduceLeDiff, Int.reduceToNat, Int.reduceAdd, Int.reduceSub, Int.reduceNeg, Int.reduceMul, Int.reduceLT, Int.reduceLE, Int.reduceEq]

theorem itoaN_A (n : Nat) (S : Store) (hn : n < 1000000000) : CallA Tryd.prog 29 [.int .i64 n] S fun r S' => r = .str (Lib.decDigits n) ∧ S' = S := by
  have := itoaG_A (S := S) (n : Int) (by omega) (by omega)
  rw [Lib.itoa_nonneg] at this
  exact this

/-! ### What is found at a seat -/
def seatAt (i : Nat) : Txt := [115, 101, 97, 116, 32] ++ Lib.decDigits i
theorem seatAt_add {i : Nat} (h : i < 1000000000) : binV .add (.str [115, 101, 97, 116, 32]) (.str (Lib.decDigits i)) = some (.str (seatAt i)) :=
  bs_add (by have := decD_len h; simp only [List.length_cons, List.length_nil]; unfold maxLen; omega)
def argBad (s : Sea) : Prop := s.row < 1 ∨ 999 < s.row ∨ s.has < 0 ∨ 15 < s.has
instance (s : Sea) : Decidable (argBad s) := by unfold argBad; infer_instance
def nameGood (t : Txt) : Prop := ∃ c, t = [c] ∧ 65 ≤ c.toNat ∧ c.toNat ≤ 90
open Classical in
noncomputable def faultsAt (l : List Sea) (i : Nat) (s : Sea) : List Flt :=
  (if argBad s then [⟨2, seatAt i⟩] else []) ++ (if nameGood s.letter then [] else [⟨5, seatAt i⟩]) ++ (if (l.take i).any (sameS s) = true then [⟨6, seatAt i⟩] else [])
noncomputable def faultsTo (l : List Sea) : Nat → List Flt
  | 0 => []
  | k + 1 => faultsTo l k ++ match l[k]? with
    | some s => faultsAt l k s
    | none => []
theorem faultsAt_len (l : List Sea) (i : Nat) (s : Sea) : (faultsAt l i s).length ≤ 3 := by
  unfold faultsAt
  simp only [List.length_append]
  split <;> split <;> split <;> simp
theorem faultsTo_len (l : List Sea) : ∀ k, (faultsTo l k).length ≤ 3 * k
  | 0 => by simp [faultsTo]
  | k + 1 => by
    have h := faultsTo_len l k
    rw [faultsTo, List.length_append]
    cases hc : l[k]? with
    | none => simp only [List.length_nil]; omega
    | some c => have := faultsAt_len l k c; simp only; omega

/-- The list of violations, behind the seat's object: at a round's head, and within a round. -/
def Out0 (S : Store) (fs : List Flt) (cell : V) (T : Store) : Prop :=
  (fs = [] ∧ cell = .nilSl ∧ T = []) ∨ ∃ v w, cell = .msl (S.length + 1) w 0 fs.length ∧ T = [⟨v, none⟩, ⟨w, some (.arr 46 2 (fs.map fltR))⟩]
def Mid (S : Store) (s : Sea) (pid : Nat) (fs : List Flt) (cell : V) (U : Store) : Prop :=
  (pid = S.length ∧ ((fs = [] ∧ cell = .nilSl ∧ U = [⟨0, some (.arr 32 3 [seaR s])⟩]) ∨ ∃ w, cell = .msl (S.length + 1) w 0 fs.length ∧ U = [⟨0, some (.arr 32 3 [seaR s])⟩, ⟨w, some (.arr 46 2 (fs.map fltR))⟩])) ∨
    (pid = S.length + 2 ∧ ∃ v w, cell = .msl (S.length + 1) w 0 fs.length ∧ U = [⟨v, none⟩, ⟨w, some (.arr 46 2 (fs.map fltR))⟩, ⟨0, some (.arr 32 3 [seaR s])⟩])

theorem Out0.mid {S T : Store} {fs : List Flt} {cell : V} (s : Sea) (h : Out0 S fs cell T) : Mid S s (S ++ T).length fs cell (T ++ [⟨0, some (.arr 32 3 [seaR s])⟩]) := by
  rcases h with ⟨rfl, rfl, rfl⟩ | ⟨v, w, rfl, rfl⟩
  · exact .inl ⟨by simp, .inl ⟨rfl, rfl, rfl⟩⟩
  · exact .inr ⟨by simp, v, w, rfl, rfl⟩

theorem Mid.obj {S U : Store} {s : Sea} {pid : Nat} {fs : List Flt} {cell : V} (h : Mid S s pid fs cell U) : Store.obj? (S ++ U) pid 0 = some (32, 3, [seaR s]) := by
  rcases h with ⟨rfl, ⟨rfl, rfl, rfl⟩ | ⟨w, rfl, rfl⟩⟩ | ⟨rfl, v, w, rfl, rfl⟩
  · rw [ob_app0, ob_head]
  · rw [ob_app0, ob_head]
  · simp [Store.obj?]

theorem mid_app {S U : Store} {s : Sea} {pid : Nat} {fs : List Flt} {cell : V} {f : Flt} {K : V → Store → Prop} (h : Mid S s pid fs cell U) (hl : fs.length < 100000) (hk : ∀ cell' U', Mid S s pid (fs ++ [f]) cell' U' → K cell' (S ++ U')) :
    appK 46 2 cell (some (2, [fltR f])) (S ++ U) K := by
  rcases h with ⟨rfl, ⟨rfl, rfl, rfl⟩ | ⟨w, rfl, rfl⟩⟩ | ⟨rfl, v, w, rfl, rfl⟩
  · rw [app_nil]
    refine ⟨by simp [roomA], ?_⟩
    have := hk (.msl (S.length + 1) 0 0 1) [⟨0, some (.arr 32 3 [seaR s])⟩, ⟨0, some (.arr 46 2 [fltR f])⟩] (.inl ⟨rfl, .inr ⟨0, rfl, rfl⟩⟩)
    simpa using this
  · rw [app_msl, ob_app, ob_cons, ob_head, appO_some]
    refine ⟨by simp, by simp [roomA]; omega, ?_⟩
    have := hk (.msl (S.length + 1) (w + 1) 0 (fs.length + 1)) [⟨0, some (.arr 32 3 [seaR s])⟩, ⟨w + 1, some (.arr 46 2 ((fs ++ [f]).map fltR))⟩] (.inl ⟨rfl, .inr ⟨w + 1, by simp, rfl⟩⟩)
    rw [se_app]
    simpa using this
  · rw [app_msl, ob_app, ob_cons, ob_head, appO_some]
    refine ⟨by simp, by simp [roomA]; omega, ?_⟩
    have := hk (.msl (S.length + 1) (w + 1) 0 (fs.length + 1)) [⟨v, none⟩, ⟨w + 1, some (.arr 46 2 ((fs ++ [f]).map fltR))⟩, ⟨0, some (.arr 32 3 [seaR s])⟩] (.inr ⟨rfl, v, w + 1, by simp, rfl⟩)
    rw [se_app]
    simpa using this

theorem mid_end {S U : Store} {s : Sea} {pid : Nat} {fs : List Flt} {cell : V} (hn : Neat S) (h : Mid S s pid fs cell U) : ∃ T, Out0 S fs cell T ∧ Fgt (S ++ U) (S ++ T) ∧ cell.under (S ++ T).length = true := by
  rcases h with ⟨rfl, ⟨rfl, rfl, rfl⟩ | ⟨w, rfl, rfl⟩⟩ | ⟨rfl, v, w, rfl, rfl⟩
  · exact ⟨[], .inl ⟨rfl, rfl, rfl⟩, by simpa using hn.fgt [_], rfl⟩
  · exact ⟨[⟨0, none⟩, ⟨w, some (.arr 46 2 (fs.map fltR))⟩], .inr ⟨0, w, rfl, rfl⟩,
      hn.fgtL (L := [_, _]) (L1 := [_, _]) ⟨rfl, trivial, rfl, ⟨_, rfl, .imm (fun r hr => by obtain ⟨f, _, rfl⟩ := List.mem_map.1 hr; exact ⟨rfl, rfl⟩)⟩, trivial⟩, by simp [V.under]⟩
  · exact ⟨[⟨v, none⟩, ⟨w, some (.arr 46 2 (fs.map fltR))⟩], .inr ⟨v, w, rfl, rfl⟩,
      hn.fgtL (L := [_, _, _]) (L1 := [_, _]) ⟨rfl, trivial, rfl, ⟨_, rfl, .imm (fun r hr => by obtain ⟨f, _, rfl⟩ := List.mem_map.1 hr; exact ⟨rfl, rfl⟩)⟩, trivial⟩, by simp [V.under]⟩

theorem out0_end {S T : Store} {fs : List Flt} {cell : V} (hn : Neat S) (h : Out0 S fs cell T) : Fgt (S ++ T) S ∧ Frz (S ++ T) S cell (fltSl fs) := by
  refine ⟨hn.fgt _, ?_⟩
  rcases h with ⟨rfl, rfl, rfl⟩ | ⟨v, w, rfl, rfl⟩
  · exact .nil
  · exact .sl (t := 46) (by omega) (by rw [ob_app, ob_cons, ob_head]) (by simp) (fun r hr => by obtain ⟨f, _, rfl⟩ := List.mem_map.1 hr; exact ⟨rfl, rfl⟩)
end Go.Proofs.YteeenlgoildmiaaDoor
