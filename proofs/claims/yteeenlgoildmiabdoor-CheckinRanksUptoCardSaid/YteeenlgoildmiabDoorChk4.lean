/- The violations of bags: checkin. -/
import Derived.Test.YteeenlgoildmiabDoorChk3
import Derived.Test.YteeenlgoildmiabDoorAlM
namespace Go.Proofs.YteeenlgoildmiabDoor
open Go Go.AL
set_option linter.unusedSimpArgs false
set_option linter.unusedVariables false

/-- The list of violations, behind the loop's variables or before them. -/
def OutB (B : Nat) (fs : List Flt) (cell : V) (A : Store) : Prop :=
  (fs = [] ∧ cell = .nilSl ∧ A = []) ∨ ∃ w, cell = .msl B w 0 fs.length ∧ A = [⟨w, some (.arr 52 2 (fs.map fltR))⟩]

theorem add0_A (b : Bool) (e : Int) (i : Nat) (fs : List Flt) (cell : V) (S A : Store) (t s x : AL.Obj) (hi : i < 60) (hf : fs.length < 1000) (h : OutB (S.length + 5) fs cell A) :
    CallA Tryd.prog 24 [.bool b, .int .i64 e, .ptr S.length 0 0 0, .ptr (S.length + 3) 0 0 0] (S ++ ⟨0, some (.arr 26 1 [[cell]])⟩ :: t :: s :: ⟨0, some (.arr 3 1 [[.int .i64 i]])⟩ :: x :: A) fun r S' =>
      r = .tup [] ∧ ∃ cell' A', OutB (S.length + 5) (fs ++ if b then [⟨e, bagAt i⟩] else []) cell' A' ∧ S' = S ++ ⟨0, some (.arr 26 1 [[cell']])⟩ :: t :: s :: ⟨0, some (.arr 3 1 [[.int .i64 i]])⟩ :: x :: A' := by
  refine CallA.keep Tryd.func24 c24 (Nat.le_of_ble_eq_true rfl) fun σ hσ => ?_
  have hadd : binV .add (.str [98, 97, 103, 32]) (.str (decB i)) = some (.str (bagAt i)) := bs_add (by have := decB_len i; simp only [List.length_cons, List.length_nil]; unfold maxLen; omega)
  cases b with
  | false =>
    simp (disch := first | omega | (simp only [List.length_cons, List.length_nil, List.length_map, List.length_drop]; omega)) only [a24, evSt, ↓evPre, ↓evPreW, evPost, evPostW, ← List.map_take, ← List.map_drop, ↓reduceIte, reduceCtorEq, Nat.reduceEqDiff, forall_const, implies_true, Nat.reduceAdd, Nat.reduceSub, Nat.reduceMul, Nat.reduceLT, Nat.reduceLeDiff, Int.reduceToNat, Int.reduceAdd, Int.reduceSub, Int.reduceNeg, Int.reduceMul, Int.reduceLT, Int.reduceLE, Int.reduceEq]
    exact ⟨cell, A, by simpa using h, rfl⟩
  | true =>
    simp (disch := first | omega | (simp only [List.length_cons, List.length_nil, List.length_map, List.length_drop]; omega)) only [a24, evSt, ↓evPre, ↓evPreW, evPost, evPostW, ← List.map_take, ← List.map_drop, ↓reduceIte, reduceCtorEq, Nat.reduceEqDiff, forall_const, implies_true, Nat.reduceAdd, Nat.reduceSub, Nat.reduceMul, Nat.reduceLT, Nat.reduceLeDiff, Int.reduceToNat, Int.reduceAdd, Int.reduceSub, Int.reduceNeg, Int.reduceMul, Int.reduceLT, Int.reduceLE, Int.reduceEq]
    refine exD.intro (itoa_A i _ (by omega)) ?_
    rcases h with ⟨rfl, rfl, rfl⟩ | ⟨w, rfl, rfl⟩
    · simp (disch := first | omega | (simp only [List.length_cons, List.length_nil, List.length_map, List.length_drop]; omega)) only [hadd, List.take_succ_cons, List.take_zero, evSt, ↓evPre, ↓evPreW, evPost, evPostW, ← List.map_take, ← List.map_drop, ↓reduceIte, reduceCtorEq, Nat.reduceEqDiff, forall_const, implies_true, Nat.reduceAdd, Nat.reduceSub, Nat.reduceMul, Nat.reduceLT, Nat.reduceLeDiff, Int.reduceToNat, Int.reduceAdd, Int.reduceSub, Int.reduceNeg, Int.reduceMul, Int.reduceLT, Int.reduceLE, Int.reduceEq]
      exact ⟨by unfold roomA; omega, _, [⟨0, some (.arr 52 2 [fltR ⟨e, bagAt i⟩])⟩], .inr ⟨0, rfl, rfl⟩, rfl⟩
    · simp (disch := first | omega | (simp only [List.length_cons, List.length_nil, List.length_map, List.length_drop]; omega)) only [hadd, List.take_succ_cons, List.take_zero, evSt, ↓evPre, ↓evPreW, evPost, evPostW, ← List.map_take, ← List.map_drop, ↓reduceIte, reduceCtorEq, Nat.reduceEqDiff, forall_const, implies_true, Nat.reduceAdd, Nat.reduceSub, Nat.reduceMul, Nat.reduceLT, Nat.reduceLeDiff, Int.reduceToNat, Int.reduceAdd, Int.reduceSub, Int.reduceNeg, Int.reduceMul, Int.reduceLT, Int.reduceLE, Int.reduceEq]
      refine ⟨by unfold roomA; omega, .msl (S.length + 5) (w + 1) 0 (fs.length + 1), [⟨w + 1, some (.arr 52 2 ((fs ++ [(⟨e, bagAt i⟩ : Flt)]).map fltR))⟩], .inr ⟨w + 1, by simp, rfl⟩, by simp [fltR]⟩

theorem add1_A (b : Bool) (e : Int) (i : Nat) (fs : List Flt) (w : Nat) (S : Store) (t s x : AL.Obj) (hi : i < 60) (hf : fs.length < 1000) :
    CallA Tryd.prog 24 [.bool b, .int .i64 e, .ptr S.length 0 0 0, .ptr (S.length + 6) 0 0 0] (S ++ ⟨0, some (.arr 26 1 [[.msl (S.length + 5) w 0 fs.length]])⟩ :: t :: s :: ⟨0, none⟩ :: ⟨0, none⟩ :: ⟨w, some (.arr 52 2 (fs.map fltR))⟩ :: ⟨0, some (.arr 3 1 [[.int .i64 i]])⟩ :: x :: []) fun r S' =>
      r = .tup [] ∧ ∃ w' fs', fs' = (fs ++ if b then [⟨e, bagAt i⟩] else []) ∧ S' = S ++ ⟨0, some (.arr 26 1 [[.msl (S.length + 5) w' 0 fs'.length]])⟩ :: t :: s :: ⟨0, none⟩ :: ⟨0, none⟩ :: ⟨w', some (.arr 52 2 (fs'.map fltR))⟩ :: ⟨0, some (.arr 3 1 [[.int .i64 i]])⟩ :: x :: [] := by
  refine CallA.keep Tryd.func24 c24 (Nat.le_of_ble_eq_true rfl) fun σ hσ => ?_
  have hadd : binV .add (.str [98, 97, 103, 32]) (.str (decB i)) = some (.str (bagAt i)) := bs_add (by have := decB_len i; simp only [List.length_cons, List.length_nil]; unfold maxLen; omega)
  cases b with
  | false =>
    simp (disch := first | omega | (simp only [List.length_cons, List.length_nil, List.length_map, List.length_drop]; omega)) only [a24, evSt, ↓evPre, ↓evPreW, evPost, evPostW, ← List.map_take, ← List.map_drop, ↓reduceIte, reduceCtorEq, Nat.reduceEqDiff, forall_const, implies_true, Nat.reduceAdd, Nat.reduceSub, Nat.reduceMul, Nat.reduceLT, Nat.reduceLeDiff, Int.reduceToNat, Int.reduceAdd, Int.reduceSub, Int.reduceNeg, Int.reduceMul, Int.reduceLT, Int.reduceLE, Int.reduceEq]
    exact ⟨w, fs, by simp, rfl⟩
  | true =>
    simp (disch := first | omega | (simp only [List.length_cons, List.length_nil, List.length_map, List.length_drop]; omega)) only [a24, evSt, ↓evPre, ↓evPreW, evPost, evPostW, ← List.map_take, ← List.map_drop, ↓reduceIte, reduceCtorEq, Nat.reduceEqDiff, forall_const, implies_true, Nat.reduceAdd, Nat.reduceSub, Nat.reduceMul, Nat.reduceLT, Nat.reduceLeDiff, Int.reduceToNat, Int.reduceAdd, Int.reduceSub, Int.reduceNeg, Int.reduceMul, Int.reduceLT, Int.reduceLE, Int.reduceEq]
    refine exD.intro (itoa_A i _ (by omega)) ?_
    simp (disch := first | omega | (simp only [List.length_cons, List.length_nil, List.length_map, List.length_drop]; omega)) only [hadd, List.take_succ_cons, List.take_zero, evSt, ↓evPre, ↓evPreW, evPost, evPostW, ← List.map_take, ← List.map_drop, ↓reduceIte, reduceCtorEq, Nat.reduceEqDiff, forall_const, implies_true, Nat.reduceAdd, Nat.reduceSub, Nat.reduceMul, Nat.reduceLT, Nat.reduceLeDiff, Int.reduceToNat, Int.reduceAdd, Int.reduceSub, Int.reduceNeg, Int.reduceMul, Int.reduceLT, Int.reduceLE, Int.reduceEq]
    refine ⟨by unfold roomA; omega, w + 1, fs ++ [⟨e, bagAt i⟩], rfl, by simp [fltR]⟩

/-- What the maps hold after some bags. -/
def capS (n : Int) : Int := if n ≤ 9223372036854775807 then n else -1
def TagsM (l : List Bg) (k : Nat) (rt : List (V × V)) : Prop := KeysK (V.int .i64) rt ∧ ∀ a, (findV (.int .i64 a) rt).getD (.bool false) = .bool ((l.take k).any fun b => decide (b.tag = a))
def SumsM (l : List Bg) (k : Nat) (rs : List (V × V)) : Prop := KeysK (V.int .i64) rs ∧ ∀ a, (findV (.int .i64 a) rs).getD (.int .i64 0) = .int .i64 (capS (tsum a (l.take k)))

theorem TagsM.next {l : List Bg} {k : Nat} {rt : List (V × V)} {c : Bg} (h : TagsM l k rt) (hc : l[k]? = some c) : TagsM l (k + 1) (putV (.int .i64 c.tag) (.bool true) rt) := by
  refine ⟨h.1.put rfl rfl, fun a => ?_⟩
  rw [find_put (K := V.int .i64) (fun a b => eqKV_int) h.1, List.take_add_one, hc]
  by_cases ha : a = c.tag
  · simp [ha]
  · have h2 := h.2 a
    have ha' : ¬ c.tag = a := fun h => ha h.symm
    simp [ha, ha', h2]
theorem SumsM.skip {l : List Bg} {k : Nat} {rs : List (V × V)} {c : Bg} (h : SumsM l k rs) (hc : l[k]? = some c) (hw : c.wt < 1) : SumsM l (k + 1) rs := by
  refine ⟨h.1, fun a => ?_⟩
  have : tOf a c = 0 := if_neg (by omega)
  rw [tsum_take hc, this, Int.add_zero]
  exact h.2 a
theorem SumsM.next {l : List Bg} {k : Nat} {rs : List (V × V)} {c : Bg} {n : Int} (h : SumsM l k rs) (hc : l[k]? = some c) (hw : 1 ≤ c.wt) (hn : n = capS (tsum c.tic (l.take k) + c.wt)) : SumsM l (k + 1) (putV (.int .i64 c.tic) (.int .i64 n) rs) := by
  refine ⟨h.1.put rfl rfl, fun a => ?_⟩
  rw [find_put (K := V.int .i64) (fun a b => eqKV_int) h.1, tsum_take hc]
  by_cases ha : a = c.tic
  · have : tOf a c = c.wt := if_pos ⟨ha.symm, hw⟩
    rw [this, if_pos ha, ha, hn]; rfl
  · have : tOf a c = 0 := if_neg (fun h => ha h.1.symm)
    rw [if_neg ha, this, Int.add_zero]
    exact h.2 a

/-- What stands behind the loop's variables at its head. -/
def CellB (B : Nat) (fs : List Flt) (cell : V) (L : Store) : Prop :=
  (fs = [] ∧ cell = .nilSl ∧ L = []) ∨ ∃ w, cell = .msl B w 0 fs.length ∧ L = [⟨0, none⟩, ⟨0, none⟩, ⟨w, some (.arr 52 2 (fs.map fltR))⟩]

theorem imm_fltR (fs : List Flt) : ∀ r ∈ fs.map fltR, r.length = 2 ∧ V.allImm r = true := fun r hr => by
  obtain ⟨f, _, rfl⟩ := List.mem_map.1 hr
  exact ⟨rfl, rfl⟩

theorem bags_fin0 {l : List Bg} {tk : List Int} {most : Int} {S : Store} {k : Nat} (hn : Neat S) (hk : k < l.length) {fs : List Flt} {c : V} {A : Store} {rt rs : List (V × V)} {st1 st2 : Option Cont} {E : Env}
    (g : OutB (S.length + 5) fs c A) (hf : faultsTo l tk most (k + 1) = fs) (ht : TagsM l (k + 1) rt) (hs : SumsM l (k + 1) rs)
    (hE : sub [(1, iSl tk), (2, .int .i64 most), (7, .ptr S.length 0 0 0), (8, .mapv (S.length + 1) 0), (9, .mapv (S.length + 2) 0), (16, bagSl l), (17, .int .i64 l.length), (18, .int .i64 (k + 1))] E) :
    ∃ p : Nat × V × Store × List (V × V) × List (V × V), (p.1 ≤ l.length ∧ CellB (S.length + 5) (faultsTo l tk most p.1) p.2.1 p.2.2.1 ∧ TagsM l p.1 p.2.2.2.1 ∧ SumsM l p.1 p.2.2.2.2) ∧ l.length - p.1 < l.length - k ∧
      Back [(1, iSl tk), (2, .int .i64 most), (7, .ptr S.length 0 0 0), (8, .mapv (S.length + 1) 0), (9, .mapv (S.length + 2) 0), (16, bagSl l), (17, .int .i64 l.length), (18, .int .i64 p.1)]
        (S ++ ⟨0, some (.arr 26 1 [[p.2.1]])⟩ :: ⟨0, some (.mp ⟨.one (.int .i64), p.2.2.2.1⟩)⟩ :: ⟨0, some (.mp ⟨.one (.int .i64), p.2.2.2.2⟩)⟩ :: p.2.2.1) E
        (S ++ ⟨0, some (.arr 26 1 [[c]])⟩ :: ⟨0, some (.mp ⟨.one (.int .i64), rt⟩)⟩ :: ⟨0, some (.mp ⟨.one (.int .i64), rs⟩)⟩ :: ⟨0, st1⟩ :: ⟨0, st2⟩ :: A) := by
  rcases g with ⟨rfl, rfl, rfl⟩ | ⟨w, rfl, rfl⟩
  · refine ⟨(k + 1, .nilSl, [], rt, rs), ⟨by simp only; omega, .inl ⟨hf, rfl, rfl⟩, ht, hs⟩, by simp only; omega, back_under ?_ hE ?_⟩
    · exact hn.fgtL ⟨rfl, ⟨_, rfl, .under (by simp [V.allUnder, V.under])⟩, rfl, objF_map rfl ht.1 (fun a => rfl), rfl, objF_map rfl hs.1 (fun a => rfl), trivial⟩
    · simp [V.under, iSl, bagSl]
  · refine ⟨(k + 1, .msl (S.length + 5) w 0 fs.length, [⟨0, none⟩, ⟨0, none⟩, ⟨w, some (.arr 52 2 (fs.map fltR))⟩], rt, rs), ⟨by simp only; omega, .inr ⟨w, by rw [hf], by rw [hf]⟩, ht, hs⟩, by simp only; omega, back_under ?_ hE ?_⟩
    · exact hn.fgtL ⟨rfl, ⟨_, rfl, .under (by simp [V.allUnder, V.under])⟩, rfl, objF_map rfl ht.1 (fun a => rfl), rfl, objF_map rfl hs.1 (fun a => rfl), rfl, trivial, rfl, trivial, rfl, ⟨_, rfl, .imm (imm_fltR _)⟩, trivial⟩
    · simp [V.under, iSl, bagSl]

theorem len_if {fs fs' : List Flt} {b : Bool} {f : Flt} (h : fs' = fs ++ if b then [f] else []) : fs'.length ≤ fs.length + 1 := by
  rw [h, List.length_append]
  split <;> simp

theorem bags_fin1 {l : List Bg} {tk : List Int} {most : Int} {S : Store} {k : Nat} (hn : Neat S) (hk : k < l.length) {fs : List Flt} {w : Nat} {rt rs : List (V × V)} {o1 o2 : AL.Obj} {E : Env}
    (hf : faultsTo l tk most (k + 1) = fs) (ht : TagsM l (k + 1) rt) (hs : SumsM l (k + 1) rs)
    (hE : sub [(1, iSl tk), (2, .int .i64 most), (7, .ptr S.length 0 0 0), (8, .mapv (S.length + 1) 0), (9, .mapv (S.length + 2) 0), (16, bagSl l), (17, .int .i64 l.length), (18, .int .i64 (k + 1))] E) :
    ∃ p : Nat × V × Store × List (V × V) × List (V × V), (p.1 ≤ l.length ∧ CellB (S.length + 5) (faultsTo l tk most p.1) p.2.1 p.2.2.1 ∧ TagsM l p.1 p.2.2.2.1 ∧ SumsM l p.1 p.2.2.2.2) ∧ l.length - p.1 < l.length - k ∧
      Back [(1, iSl tk), (2, .int .i64 most), (7, .ptr S.length 0 0 0), (8, .mapv (S.length + 1) 0), (9, .mapv (S.length + 2) 0), (16, bagSl l), (17, .int .i64 l.length), (18, .int .i64 p.1)]
        (S ++ ⟨0, some (.arr 26 1 [[p.2.1]])⟩ :: ⟨0, some (.mp ⟨.one (.int .i64), p.2.2.2.1⟩)⟩ :: ⟨0, some (.mp ⟨.one (.int .i64), p.2.2.2.2⟩)⟩ :: p.2.2.1) E
        (S ++ ⟨0, some (.arr 26 1 [[.msl (S.length + 5) w 0 fs.length]])⟩ :: ⟨0, some (.mp ⟨.one (.int .i64), rt⟩)⟩ :: ⟨0, some (.mp ⟨.one (.int .i64), rs⟩)⟩ :: ⟨0, none⟩ :: ⟨0, none⟩ :: ⟨w, some (.arr 52 2 (fs.map fltR))⟩ :: o1 :: o2 :: []) := by
  · refine ⟨(k + 1, .msl (S.length + 5) w 0 fs.length, [⟨0, none⟩, ⟨0, none⟩, ⟨w, some (.arr 52 2 (fs.map fltR))⟩], rt, rs), ⟨by simp only; omega, .inr ⟨w, by rw [hf], by rw [hf]⟩, ht, hs⟩, by simp only; omega, back_under ?_ hE ?_⟩
    · exact hn.fgtL ⟨rfl, ⟨_, rfl, .under (by simp [V.allUnder, V.under])⟩, rfl, objF_map rfl ht.1 (fun a => rfl), rfl, objF_map rfl hs.1 (fun a => rfl), rfl, trivial, rfl, trivial, rfl, ⟨_, rfl, .imm (imm_fltR _)⟩, trivial⟩
    · simp [V.under, iSl, bagSl]

theorem bags_A (l : List Bg) (tk : List Int) (most : Int) (S : Store) (hl : l.length ≤ 60) (htk : tk.length ≤ 60) (hm : i64r most) (hb : ∀ b ∈ l, i64r b.wt) :
    CallA Tryd.prog 10 [bagSl l, iSl tk, .int .i64 most] S fun r S' => r = fltSl (faultsTo l tk most l.length) ∧ S' = S := by
  refine CallA.withNeat Tryd.func10 c10 fun hn => ?_
  refine CallA.fin Tryd.func10 c10 (Nat.le_of_ble_eq_true rfl) fun σ hσ => ?_
  simp (disch := first | omega | (simp only [List.length_cons, List.length_nil, List.length_map, List.length_drop]; omega)) only [a10, bagSl, iSl, List.length_map, evSt, ↓evPre, ↓evPreW, evPost, evPostW, ← List.map_take, ← List.map_drop, ↓reduceIte, reduceCtorEq, Nat.reduceEqDiff, forall_const, implies_true, Nat.reduceAdd, Nat.reduceSub, Nat.reduceMul, Nat.reduceLT, Nat.reduceLeDiff, Int.reduceToNat, Int.reduceAdd, Int.reduceSub, Int.reduceNeg, Int.reduceMul, Int.reduceLT, Int.reduceLE, Int.reduceEq]
  refine loopF (ι := Nat × V × Store × List (V × V) × List (V × V)) (fun p => [(1, iSl tk), (2, .int .i64 most), (7, .ptr S.length 0 0 0), (8, .mapv (S.length + 1) 0), (9, .mapv (S.length + 2) 0), (16, bagSl l), (17, .int .i64 l.length), (18, .int .i64 p.1)])
    (fun p => S ++ ⟨0, some (.arr 26 1 [[p.2.1]])⟩ :: ⟨0, some (.mp ⟨.one (.int .i64), p.2.2.2.1⟩)⟩ :: ⟨0, some (.mp ⟨.one (.int .i64), p.2.2.2.2⟩)⟩ :: p.2.2.1)
    (fun p => p.1 ≤ l.length ∧ CellB (S.length + 5) (faultsTo l tk most p.1) p.2.1 p.2.2.1 ∧ TagsM l p.1 p.2.2.2.1 ∧ SumsM l p.1 p.2.2.2.2) (fun p => l.length - p.1) (fun p hp => by rw [hσ]; simp)
    (0, .nilSl, [], [], []) ⟨Nat.zero_le _, .inl ⟨rfl, rfl, rfl⟩, ⟨.nil, fun a => by simp [findV]⟩, ⟨.nil, fun a => by simp [findV, tsum, capS]⟩⟩ (.inl ⟨?_, ?_⟩) ?_
  · simp only [bagSl, iSl, ↓evPre, ↓evPreW, evPost, evPostW, ← List.map_take, ← List.map_drop, ↓reduceIte, reduceCtorEq, Nat.reduceEqDiff, forall_const, implies_true, Nat.reduceAdd, Nat.reduceSub, Nat.reduceMul, Nat.reduceLT, Nat.reduceLeDiff, Int.reduceToNat, Int.reduceAdd, Int.reduceSub, Int.reduceNeg, Int.reduceMul, Int.reduceLT, Int.reduceLE, Int.reduceEq]
  · rfl
  · rintro ⟨k, cell, L, rt, rs⟩ ⟨hk, hcell, ht, hs⟩
    simp only at hk hcell ht hs ⊢
    cases hc : l[k]? with
    | none =>
      have hge : l.length ≤ k := List.getElem?_eq_none_iff.1 hc
      have hlt : ¬ ((k : Int) < l.length) := by omega
      have e : k = l.length := by omega
      have hok : cell.cellOk = true := by rcases hcell with ⟨_, rfl, _⟩ | ⟨_, rfl, _⟩ <;> rfl
      rw [e] at hcell
      simp (disch := first | omega | (simp only [List.length_cons, List.length_nil, List.length_map, List.length_drop]; omega)) only [bagSl, List.length_map, wrap_i64, hc, hlt, hok, decide_false, evSt, ↓evPre, ↓evPreW, evPost, evPostW, ← List.map_take, ← List.map_drop, ↓reduceIte, reduceCtorEq, Nat.reduceEqDiff, forall_const, implies_true, Nat.reduceAdd, Nat.reduceSub, Nat.reduceMul, Nat.reduceLT, Nat.reduceLeDiff, Int.reduceToNat, Int.reduceAdd, Int.reduceSub, Int.reduceNeg, Int.reduceMul, Int.reduceLT, Int.reduceLE, Int.reduceEq]
      refine ⟨fltSl (faultsTo l tk most l.length), S, hn.fgt _, ?_, Nat.le_refl _, rfl, rfl⟩
      rcases hcell with ⟨h1, rfl, rfl⟩ | ⟨w, rfl, rfl⟩
      · rw [h1]; exact .nil
      · exact .sl (t := 52) (by omega) (by rw [ob_app, ob_cons, ob_cons, ob_cons, ob_cons, ob_cons, ob_head]) (by simp) (imm_fltR _)
    | some c =>
      have hlt' := (List.getElem?_eq_some_iff.1 hc).1
      have hlt : (k : Int) < l.length := by omega
      have hfl := faultsTo_len l tk most k
      have hstep : faultsTo l tk most (k + 1) = faultsTo l tk most k ++ faultsAt l tk most k c := by rw [faultsTo, hc]
      have hfa : faultsAt l tk most k c = (if twiceF l k c then [⟨6, bagAt k⟩] else []) ++ (if tk.contains c.tic then [] else [⟨34, bagAt k⟩]) ++
        (if c.wt < 1 then [⟨2, bagAt k⟩] else if most < tsum c.tic (l.take (k + 1)) then [⟨32, bagAt k⟩] else []) := rfl
      rw [hfa] at hstep
      have hlk1 : (findV (.int .i64 c.tag) rt).getD (.bool false) = .bool (twiceF l k c) := ht.2 c.tag
      have hlk2 := hs.2 c.tic
      have hbc := hb c (List.mem_of_getElem? hc)
      unfold i64r at hbc hm
      have htp := tsum_pos c.tic (l.take k)
      have htn := ht.next hc
      generalize hFs : faultsTo l tk most k = fs at *
      rcases hcell with ⟨rfl, rfl, rfl⟩ | ⟨w, rfl, rfl⟩
      · simp (disch := first | omega | (simp only [List.length_cons, List.length_nil, List.length_map, List.length_drop]; omega)) only [bagSl, iSl, bagR, List.length_map, wrap_i64, hc, hlt, hlk1, decide_true, decide_false, List.cons_append, List.nil_append, List.take_succ_cons, List.take_zero, List.getElem?_map, Option.map_some, evSt, ↓evPre, ↓evPreW, evPost, evPostW, ← List.map_take, ← List.map_drop, ↓reduceIte, reduceCtorEq, Nat.reduceEqDiff, forall_const, implies_true, Nat.reduceAdd, Nat.reduceSub, Nat.reduceMul, Nat.reduceLT, Nat.reduceLeDiff, Int.reduceToNat, Int.reduceAdd, Int.reduceSub, Int.reduceNeg, Int.reduceMul, Int.reduceLT, Int.reduceLE, Int.reduceEq]
        refine (add0_A _ _ k _ .nilSl S [] _ _ _ (by omega) (by (try simp only [List.length_append]); (try split) <;> (try split) <;> (try simp only [List.length_cons, List.length_nil]) <;> omega) (.inl ⟨rfl, rfl, rfl⟩)).mono ?_
        rintro _ _ ⟨rfl, c1, A1, g1, rfl⟩
        simp (disch := first | omega | (simp only [List.length_cons, List.length_nil, List.length_map, List.length_drop]; omega)) only [bagSl, iSl, bagR, List.length_map, wrap_i64, hc, hlt, hlk1, decide_true, decide_false, List.cons_append, List.nil_append, List.take_succ_cons, List.take_zero, List.getElem?_map, Option.map_some, evSt, ↓evPre, ↓evPreW, evPost, evPostW, ← List.map_take, ← List.map_drop, ↓reduceIte, reduceCtorEq, Nat.reduceEqDiff, forall_const, implies_true, Nat.reduceAdd, Nat.reduceSub, Nat.reduceMul, Nat.reduceLT, Nat.reduceLeDiff, Int.reduceToNat, Int.reduceAdd, Int.reduceSub, Int.reduceNeg, Int.reduceMul, Int.reduceLT, Int.reduceLE, Int.reduceEq]
        refine (contains_A tk c.tic _ (by omega)).then ?_
        simp (disch := first | omega | (simp only [List.length_cons, List.length_nil, List.length_map, List.length_drop]; omega)) only [bagSl, iSl, bagR, List.length_map, wrap_i64, hc, hlt, hlk1, decide_true, decide_false, List.cons_append, List.nil_append, List.take_succ_cons, List.take_zero, List.getElem?_map, Option.map_some, evSt, ↓evPre, ↓evPreW, evPost, evPostW, ← List.map_take, ← List.map_drop, ↓reduceIte, reduceCtorEq, Nat.reduceEqDiff, forall_const, implies_true, Nat.reduceAdd, Nat.reduceSub, Nat.reduceMul, Nat.reduceLT, Nat.reduceLeDiff, Int.reduceToNat, Int.reduceAdd, Int.reduceSub, Int.reduceNeg, Int.reduceMul, Int.reduceLT, Int.reduceLE, Int.reduceEq]
        refine (add0_A _ _ k _ c1 S A1 _ _ _ (by omega) (by (try simp only [List.length_append]); (try split) <;> (try split) <;> (try simp only [List.length_cons, List.length_nil]) <;> omega) g1).mono ?_
        rintro _ _ ⟨rfl, c2, A2, g2, rfl⟩
        simp (disch := first | omega | (simp only [List.length_cons, List.length_nil, List.length_map, List.length_drop]; omega)) only [bagSl, iSl, bagR, List.length_map, wrap_i64, hc, hlt, hlk1, decide_true, decide_false, List.cons_append, List.nil_append, List.take_succ_cons, List.take_zero, List.getElem?_map, Option.map_some, evSt, ↓evPre, ↓evPreW, evPost, evPostW, ← List.map_take, ← List.map_drop, ↓reduceIte, reduceCtorEq, Nat.reduceEqDiff, forall_const, implies_true, Nat.reduceAdd, Nat.reduceSub, Nat.reduceMul, Nat.reduceLT, Nat.reduceLeDiff, Int.reduceToNat, Int.reduceAdd, Int.reduceSub, Int.reduceNeg, Int.reduceMul, Int.reduceLT, Int.reduceLE, Int.reduceEq]
        refine (add0_A _ _ k _ c2 S A2 _ _ _ (by omega) (by (try simp only [List.length_append]); (try split) <;> (try split) <;> (try simp only [List.length_cons, List.length_nil]) <;> omega) g2).mono ?_
        rintro _ _ ⟨rfl, c3, A3, g3, rfl⟩
        by_cases hli : c.wt < 1
        · simp only [hli, decide_true, if_true] at hstep g3 ⊢
          simp (disch := first | omega | (simp only [List.length_cons, List.length_nil, List.length_map, List.length_drop]; omega)) only [hli, bagSl, iSl, bagR, List.length_map, wrap_i64, hc, hlt, hlk1, decide_true, decide_false, List.cons_append, List.nil_append, List.take_succ_cons, List.take_zero, List.getElem?_map, Option.map_some, evSt, ↓evPre, ↓evPreW, evPost, evPostW, ← List.map_take, ← List.map_drop, ↓reduceIte, reduceCtorEq, Nat.reduceEqDiff, forall_const, implies_true, Nat.reduceAdd, Nat.reduceSub, Nat.reduceMul, Nat.reduceLT, Nat.reduceLeDiff, Int.reduceToNat, Int.reduceAdd, Int.reduceSub, Int.reduceNeg, Int.reduceMul, Int.reduceLT, Int.reduceLE, Int.reduceEq]
          exact bags_fin0 hn hlt' g3 (by rw [hstep]; cases twiceF l k c <;> cases tk.contains c.tic <;> simp [hli]) htn (hs.skip hc hli) ⟨rfl, rfl, rfl, rfl, rfl, rfl, rfl, rfl, trivial⟩
        · have hli2 : 1 ≤ c.wt := by omega
          have htk1 : tsum c.tic (l.take (k + 1)) = tsum c.tic (l.take k) + c.wt := by rw [tsum_take hc, show tOf c.tic c = c.wt from if_pos ⟨rfl, hli2⟩]
          simp only [hli, decide_false, if_false, Bool.false_eq_true, List.append_nil] at hstep g3 ⊢
          by_cases h1 : tsum c.tic (l.take k) ≤ 9223372036854775807
          · have hcap : capS (tsum c.tic (l.take k)) = tsum c.tic (l.take k) := if_pos h1
            rw [hcap] at hlk2
            have hneg : ¬ tsum c.tic (l.take k) < 0 := by omega
            by_cases h2 : 9223372036854775807 - c.wt < tsum c.tic (l.take k)
            · have hov : most < tsum c.tic (l.take (k + 1)) := by omega
              have hcp2 : (-1 : Int) = capS (tsum c.tic (l.take k) + c.wt) := (if_neg (by omega)).symm
              simp (disch := first | omega | (simp only [List.length_cons, List.length_nil, List.length_map, List.length_drop]; omega)) only [hli, hlk2, hneg, h2, bagSl, iSl, bagR, List.length_map, wrap_i64, hc, hlt, hlk1, decide_true, decide_false, List.cons_append, List.nil_append, List.take_succ_cons, List.take_zero, List.getElem?_map, Option.map_some, evSt, ↓evPre, ↓evPreW, evPost, evPostW, ← List.map_take, ← List.map_drop, ↓reduceIte, reduceCtorEq, Nat.reduceEqDiff, forall_const, implies_true, Nat.reduceAdd, Nat.reduceSub, Nat.reduceMul, Nat.reduceLT, Nat.reduceLeDiff, Int.reduceToNat, Int.reduceAdd, Int.reduceSub, Int.reduceNeg, Int.reduceMul, Int.reduceLT, Int.reduceLE, Int.reduceEq]
              refine (add0_A _ _ k _ c3 S A3 _ _ _ (by omega) (by (try simp only [List.length_append]); (try split) <;> (try split) <;> (try simp only [List.length_cons, List.length_nil]) <;> omega) g3).mono ?_
              rintro _ _ ⟨rfl, c4, A4, g4, rfl⟩
              simp (disch := first | omega | (simp only [List.length_cons, List.length_nil, List.length_map, List.length_drop]; omega)) only [hli, hlk2, hneg, h2, bagSl, iSl, bagR, List.length_map, wrap_i64, hc, hlt, hlk1, decide_true, decide_false, List.cons_append, List.nil_append, List.take_succ_cons, List.take_zero, List.getElem?_map, Option.map_some, evSt, ↓evPre, ↓evPreW, evPost, evPostW, ← List.map_take, ← List.map_drop, ↓reduceIte, reduceCtorEq, Nat.reduceEqDiff, forall_const, implies_true, Nat.reduceAdd, Nat.reduceSub, Nat.reduceMul, Nat.reduceLT, Nat.reduceLeDiff, Int.reduceToNat, Int.reduceAdd, Int.reduceSub, Int.reduceNeg, Int.reduceMul, Int.reduceLT, Int.reduceLE, Int.reduceEq]
              exact bags_fin0 hn hlt' g4 (by rw [hstep]; cases twiceF l k c <;> cases tk.contains c.tic <;> simp [hli, hov]) htn (hs.next hc hli2 hcp2) ⟨rfl, rfl, rfl, rfl, rfl, rfl, rfl, rfl, trivial⟩
            · have hcp2 : tsum c.tic (l.take k) + c.wt = capS (tsum c.tic (l.take k) + c.wt) := (if_pos (by omega)).symm
              simp (disch := first | omega | (simp only [List.length_cons, List.length_nil, List.length_map, List.length_drop]; omega)) only [hli, hlk2, hneg, h2, bagSl, iSl, bagR, List.length_map, wrap_i64, hc, hlt, hlk1, decide_true, decide_false, List.cons_append, List.nil_append, List.take_succ_cons, List.take_zero, List.getElem?_map, Option.map_some, evSt, ↓evPre, ↓evPreW, evPost, evPostW, ← List.map_take, ← List.map_drop, ↓reduceIte, reduceCtorEq, Nat.reduceEqDiff, forall_const, implies_true, Nat.reduceAdd, Nat.reduceSub, Nat.reduceMul, Nat.reduceLT, Nat.reduceLeDiff, Int.reduceToNat, Int.reduceAdd, Int.reduceSub, Int.reduceNeg, Int.reduceMul, Int.reduceLT, Int.reduceLE, Int.reduceEq]
              refine (add0_A _ _ k _ c3 S A3 _ _ _ (by omega) (by (try simp only [List.length_append]); (try split) <;> (try split) <;> (try simp only [List.length_cons, List.length_nil]) <;> omega) g3).mono ?_
              rintro _ _ ⟨rfl, c4, A4, g4, rfl⟩
              simp (disch := first | omega | (simp only [List.length_cons, List.length_nil, List.length_map, List.length_drop]; omega)) only [hli, hlk2, hneg, h2, bagSl, iSl, bagR, List.length_map, wrap_i64, hc, hlt, hlk1, decide_true, decide_false, List.cons_append, List.nil_append, List.take_succ_cons, List.take_zero, List.getElem?_map, Option.map_some, evSt, ↓evPre, ↓evPreW, evPost, evPostW, ← List.map_take, ← List.map_drop, ↓reduceIte, reduceCtorEq, Nat.reduceEqDiff, forall_const, implies_true, Nat.reduceAdd, Nat.reduceSub, Nat.reduceMul, Nat.reduceLT, Nat.reduceLeDiff, Int.reduceToNat, Int.reduceAdd, Int.reduceSub, Int.reduceNeg, Int.reduceMul, Int.reduceLT, Int.reduceLE, Int.reduceEq]
              exact bags_fin0 hn hlt' g4 (by rw [hstep]; cases twiceF l k c <;> cases tk.contains c.tic <;> simp [hli, htk1]) htn (hs.next hc hli2 hcp2) ⟨rfl, rfl, rfl, rfl, rfl, rfl, rfl, rfl, trivial⟩
          · have hcap : capS (tsum c.tic (l.take k)) = -1 := if_neg h1
            rw [hcap] at hlk2
            have hneg : (-1 : Int) < 0 := by omega
            have hov : most < tsum c.tic (l.take (k + 1)) := by omega
            have hcp2 : (-1 : Int) = capS (tsum c.tic (l.take k) + c.wt) := (if_neg (by omega)).symm
            simp (disch := first | omega | (simp only [List.length_cons, List.length_nil, List.length_map, List.length_drop]; omega)) only [hli, hlk2, hneg, bagSl, iSl, bagR, List.length_map, wrap_i64, hc, hlt, hlk1, decide_true, decide_false, List.cons_append, List.nil_append, List.take_succ_cons, List.take_zero, List.getElem?_map, Option.map_some, evSt, ↓evPre, ↓evPreW, evPost, evPostW, ← List.map_take, ← List.map_drop, ↓reduceIte, reduceCtorEq, Nat.reduceEqDiff, forall_const, implies_true, Nat.reduceAdd, Nat.reduceSub, Nat.reduceMul, Nat.reduceLT, Nat.reduceLeDiff, Int.reduceToNat, Int.reduceAdd, Int.reduceSub, Int.reduceNeg, Int.reduceMul, Int.reduceLT, Int.reduceLE, Int.reduceEq]
            refine (add0_A _ _ k _ c3 S A3 _ _ _ (by omega) (by (try simp only [List.length_append]); (try split) <;> (try split) <;> (try simp only [List.length_cons, List.length_nil]) <;> omega) g3).mono ?_
            rintro _ _ ⟨rfl, c4, A4, g4, rfl⟩
            simp (disch := first | omega | (simp only [List.length_cons, List.length_nil, List.length_map, List.length_drop]; omega)) only [hli, hlk2, hneg, bagSl, iSl, bagR, List.length_map, wrap_i64, hc, hlt, hlk1, decide_true, decide_false, List.cons_append, List.nil_append, List.take_succ_cons, List.take_zero, List.getElem?_map, Option.map_some, evSt, ↓evPre, ↓evPreW, evPost, evPostW, ← List.map_take, ← List.map_drop, ↓reduceIte, reduceCtorEq, Nat.reduceEqDiff, forall_const, implies_true, Nat.reduceAdd, Nat.reduceSub, Nat.reduceMul, Nat.reduceLT, Nat.reduceLeDiff, Int.reduceToNat, Int.reduceAdd, Int.reduceSub, Int.reduceNeg, Int.reduceMul, Int.reduceLT, Int.reduceLE, Int.reduceEq]
            exact bags_fin0 hn hlt' g4 (by rw [hstep]; cases twiceF l k c <;> cases tk.contains c.tic <;> simp [hli, hov]) htn (hs.next hc hli2 hcp2) ⟨rfl, rfl, rfl, rfl, rfl, rfl, rfl, rfl, trivial⟩
      · simp (disch := first | omega | (simp only [List.length_cons, List.length_nil, List.length_map, List.length_drop]; omega)) only [bagSl, iSl, bagR, List.length_map, wrap_i64, hc, hlt, hlk1, decide_true, decide_false, List.cons_append, List.nil_append, List.take_succ_cons, List.take_zero, List.getElem?_map, Option.map_some, evSt, ↓evPre, ↓evPreW, evPost, evPostW, ← List.map_take, ← List.map_drop, ↓reduceIte, reduceCtorEq, Nat.reduceEqDiff, forall_const, implies_true, Nat.reduceAdd, Nat.reduceSub, Nat.reduceMul, Nat.reduceLT, Nat.reduceLeDiff, Int.reduceToNat, Int.reduceAdd, Int.reduceSub, Int.reduceNeg, Int.reduceMul, Int.reduceLT, Int.reduceLE, Int.reduceEq]
        refine (add1_A _ _ k fs _ S _ _ _ (by omega) (by omega)).mono ?_
        rintro _ _ ⟨rfl, w1, fs1, e1, rfl⟩
        have ln1 := len_if e1
        simp (disch := first | omega | (simp only [List.length_cons, List.length_nil, List.length_map, List.length_drop]; omega)) only [bagSl, iSl, bagR, List.length_map, wrap_i64, hc, hlt, hlk1, decide_true, decide_false, List.cons_append, List.nil_append, List.take_succ_cons, List.take_zero, List.getElem?_map, Option.map_some, evSt, ↓evPre, ↓evPreW, evPost, evPostW, ← List.map_take, ← List.map_drop, ↓reduceIte, reduceCtorEq, Nat.reduceEqDiff, forall_const, implies_true, Nat.reduceAdd, Nat.reduceSub, Nat.reduceMul, Nat.reduceLT, Nat.reduceLeDiff, Int.reduceToNat, Int.reduceAdd, Int.reduceSub, Int.reduceNeg, Int.reduceMul, Int.reduceLT, Int.reduceLE, Int.reduceEq]
        refine (contains_A tk c.tic _ (by omega)).then ?_
        simp (disch := first | omega | (simp only [List.length_cons, List.length_nil, List.length_map, List.length_drop]; omega)) only [bagSl, iSl, bagR, List.length_map, wrap_i64, hc, hlt, hlk1, decide_true, decide_false, List.cons_append, List.nil_append, List.take_succ_cons, List.take_zero, List.getElem?_map, Option.map_some, evSt, ↓evPre, ↓evPreW, evPost, evPostW, ← List.map_take, ← List.map_drop, ↓reduceIte, reduceCtorEq, Nat.reduceEqDiff, forall_const, implies_true, Nat.reduceAdd, Nat.reduceSub, Nat.reduceMul, Nat.reduceLT, Nat.reduceLeDiff, Int.reduceToNat, Int.reduceAdd, Int.reduceSub, Int.reduceNeg, Int.reduceMul, Int.reduceLT, Int.reduceLE, Int.reduceEq]
        refine (add1_A _ _ k fs1 _ S _ _ _ (by omega) (by omega)).mono ?_
        rintro _ _ ⟨rfl, w2, fs2, e2, rfl⟩
        have ln2 := len_if e2
        simp (disch := first | omega | (simp only [List.length_cons, List.length_nil, List.length_map, List.length_drop]; omega)) only [bagSl, iSl, bagR, List.length_map, wrap_i64, hc, hlt, hlk1, decide_true, decide_false, List.cons_append, List.nil_append, List.take_succ_cons, List.take_zero, List.getElem?_map, Option.map_some, evSt, ↓evPre, ↓evPreW, evPost, evPostW, ← List.map_take, ← List.map_drop, ↓reduceIte, reduceCtorEq, Nat.reduceEqDiff, forall_const, implies_true, Nat.reduceAdd, Nat.reduceSub, Nat.reduceMul, Nat.reduceLT, Nat.reduceLeDiff, Int.reduceToNat, Int.reduceAdd, Int.reduceSub, Int.reduceNeg, Int.reduceMul, Int.reduceLT, Int.reduceLE, Int.reduceEq]
        refine (add1_A _ _ k fs2 _ S _ _ _ (by omega) (by omega)).mono ?_
        rintro _ _ ⟨rfl, w3, fs3, e3, rfl⟩
        have ln3 := len_if e3
        by_cases hli : c.wt < 1
        · simp only [hli, decide_true, if_true] at hstep e3 ⊢
          simp (disch := first | omega | (simp only [List.length_cons, List.length_nil, List.length_map, List.length_drop]; omega)) only [hli, bagSl, iSl, bagR, List.length_map, wrap_i64, hc, hlt, hlk1, decide_true, decide_false, List.cons_append, List.nil_append, List.take_succ_cons, List.take_zero, List.getElem?_map, Option.map_some, evSt, ↓evPre, ↓evPreW, evPost, evPostW, ← List.map_take, ← List.map_drop, ↓reduceIte, reduceCtorEq, Nat.reduceEqDiff, forall_const, implies_true, Nat.reduceAdd, Nat.reduceSub, Nat.reduceMul, Nat.reduceLT, Nat.reduceLeDiff, Int.reduceToNat, Int.reduceAdd, Int.reduceSub, Int.reduceNeg, Int.reduceMul, Int.reduceLT, Int.reduceLE, Int.reduceEq]
          exact bags_fin1 hn hlt' (by rw [hstep, e3, e2, e1]; cases twiceF l k c <;> cases tk.contains c.tic <;> simp [hli]) htn (hs.skip hc hli) ⟨rfl, rfl, rfl, rfl, rfl, rfl, rfl, rfl, trivial⟩
        · have hli2 : 1 ≤ c.wt := by omega
          have htk1 : tsum c.tic (l.take (k + 1)) = tsum c.tic (l.take k) + c.wt := by rw [tsum_take hc, show tOf c.tic c = c.wt from if_pos ⟨rfl, hli2⟩]
          simp only [hli, decide_false, if_false, Bool.false_eq_true, List.append_nil] at hstep e3 ⊢
          by_cases h1 : tsum c.tic (l.take k) ≤ 9223372036854775807
          · have hcap : capS (tsum c.tic (l.take k)) = tsum c.tic (l.take k) := if_pos h1
            rw [hcap] at hlk2
            have hneg : ¬ tsum c.tic (l.take k) < 0 := by omega
            by_cases h2 : 9223372036854775807 - c.wt < tsum c.tic (l.take k)
            · have hov : most < tsum c.tic (l.take (k + 1)) := by omega
              have hcp2 : (-1 : Int) = capS (tsum c.tic (l.take k) + c.wt) := (if_neg (by omega)).symm
              simp (disch := first | omega | (simp only [List.length_cons, List.length_nil, List.length_map, List.length_drop]; omega)) only [hli, hlk2, hneg, h2, bagSl, iSl, bagR, List.length_map, wrap_i64, hc, hlt, hlk1, decide_true, decide_false, List.cons_append, List.nil_append, List.take_succ_cons, List.take_zero, List.getElem?_map, Option.map_some, evSt, ↓evPre, ↓evPreW, evPost, evPostW, ← List.map_take, ← List.map_drop, ↓reduceIte, reduceCtorEq, Nat.reduceEqDiff, forall_const, implies_true, Nat.reduceAdd, Nat.reduceSub, Nat.reduceMul, Nat.reduceLT, Nat.reduceLeDiff, Int.reduceToNat, Int.reduceAdd, Int.reduceSub, Int.reduceNeg, Int.reduceMul, Int.reduceLT, Int.reduceLE, Int.reduceEq]
              refine (add1_A _ _ k fs3 _ S _ _ _ (by omega) (by omega)).mono ?_
              rintro _ _ ⟨rfl, w4, fs4, e4, rfl⟩
              have ln4 := len_if e4
              simp (disch := first | omega | (simp only [List.length_cons, List.length_nil, List.length_map, List.length_drop]; omega)) only [hli, hlk2, hneg, h2, bagSl, iSl, bagR, List.length_map, wrap_i64, hc, hlt, hlk1, decide_true, decide_false, List.cons_append, List.nil_append, List.take_succ_cons, List.take_zero, List.getElem?_map, Option.map_some, evSt, ↓evPre, ↓evPreW, evPost, evPostW, ← List.map_take, ← List.map_drop, ↓reduceIte, reduceCtorEq, Nat.reduceEqDiff, forall_const, implies_true, Nat.reduceAdd, Nat.reduceSub, Nat.reduceMul, Nat.reduceLT, Nat.reduceLeDiff, Int.reduceToNat, Int.reduceAdd, Int.reduceSub, Int.reduceNeg, Int.reduceMul, Int.reduceLT, Int.reduceLE, Int.reduceEq]
              exact bags_fin1 hn hlt' (by rw [hstep, e4, e3, e2, e1]; cases twiceF l k c <;> cases tk.contains c.tic <;> simp [hli, hov]) htn (hs.next hc hli2 hcp2) ⟨rfl, rfl, rfl, rfl, rfl, rfl, rfl, rfl, trivial⟩
            · have hcp2 : tsum c.tic (l.take k) + c.wt = capS (tsum c.tic (l.take k) + c.wt) := (if_pos (by omega)).symm
              simp (disch := first | omega | (simp only [List.length_cons, List.length_nil, List.length_map, List.length_drop]; omega)) only [hli, hlk2, hneg, h2, bagSl, iSl, bagR, List.length_map, wrap_i64, hc, hlt, hlk1, decide_true, decide_false, List.cons_append, List.nil_append, List.take_succ_cons, List.take_zero, List.getElem?_map, Option.map_some, evSt, ↓evPre, ↓evPreW, evPost, evPostW, ← List.map_take, ← List.map_drop, ↓reduceIte, reduceCtorEq, Nat.reduceEqDiff, forall_const, implies_true, Nat.reduceAdd, Nat.reduceSub, Nat.reduceMul, Nat.reduceLT, Nat.reduceLeDiff, Int.reduceToNat, Int.reduceAdd, Int.reduceSub, Int.reduceNeg, Int.reduceMul, Int.reduceLT, Int.reduceLE, Int.reduceEq]
              refine (add1_A _ _ k fs3 _ S _ _ _ (by omega) (by omega)).mono ?_
              rintro _ _ ⟨rfl, w4, fs4, e4, rfl⟩
              have ln4 := len_if e4
              simp (disch := first | omega | (simp only [List.length_cons, List.length_nil, List.length_map, List.length_drop]; omega)) only [hli, hlk2, hneg, h2, bagSl, iSl, bagR, List.length_map, wrap_i64, hc, hlt, hlk1, decide_true, decide_false, List.cons_append, List.nil_append, List.take_succ_cons, List.take_zero, List.getElem?_map, Option.map_some, evSt, ↓evPre, ↓evPreW, evPost, evPostW, ← List.map_take, ← List.map_drop, ↓reduceIte, reduceCtorEq, Nat.reduceEqDiff, forall_const, implies_true, Nat.reduceAdd, Nat.reduceSub, Nat.reduceMul, Nat.reduceLT, Nat.reduceLeDiff, Int.reduceToNat, Int.reduceAdd, Int.reduceSub, Int.reduceNeg, Int.reduceMul, Int.reduceLT, Int.reduceLE, Int.reduceEq]
              exact bags_fin1 hn hlt' (by rw [hstep, e4, e3, e2, e1]; cases twiceF l k c <;> cases tk.contains c.tic <;> simp [hli, htk1]) htn (hs.next hc hli2 hcp2) ⟨rfl, rfl, rfl, rfl, rfl, rfl, rfl, rfl, trivial⟩
          · have hcap : capS (tsum c.tic (l.take k)) = -1 := if_neg h1
            rw [hcap] at hlk2
            have hneg : (-1 : Int) < 0 := by omega
            have hov : most < tsum c.tic (l.take (k + 1)) := by omega
            have hcp2 : (-1 : Int) = capS (tsum c.tic (l.take k) + c.wt) := (if_neg (by omega)).symm
            simp (disch := first | omega | (simp only [List.length_cons, List.length_nil, List.length_map, List.length_drop]; omega)) only [hli, hlk2, hneg, bagSl, iSl, bagR, List.length_map, wrap_i64, hc, hlt, hlk1, decide_true, decide_false, List.cons_append, List.nil_append, List.take_succ_cons, List.take_zero, List.getElem?_map, Option.map_some, evSt, ↓evPre, ↓evPreW, evPost, evPostW, ← List.map_take, ← List.map_drop, ↓reduceIte, reduceCtorEq, Nat.reduceEqDiff, forall_const, implies_true, Nat.reduceAdd, Nat.reduceSub, Nat.reduceMul, Nat.reduceLT, Nat.reduceLeDiff, Int.reduceToNat, Int.reduceAdd, Int.reduceSub, Int.reduceNeg, Int.reduceMul, Int.reduceLT, Int.reduceLE, Int.reduceEq]
            refine (add1_A _ _ k fs3 _ S _ _ _ (by omega) (by omega)).mono ?_
            rintro _ _ ⟨rfl, w4, fs4, e4, rfl⟩
            have ln4 := len_if e4
            simp (disch := first | omega | (simp only [List.length_cons, List.length_nil, List.length_map, List.length_drop]; omega)) only [hli, hlk2, hneg, bagSl, iSl, bagR, List.length_map, wrap_i64, hc, hlt, hlk1, decide_true, decide_false, List.cons_append, List.nil_append, List.take_succ_cons, List.take_zero, List.getElem?_map, Option.map_some, evSt, ↓evPre, ↓evPreW, evPost, evPostW, ← List.map_take, ← List.map_drop, ↓reduceIte, reduceCtorEq, Nat.reduceEqDiff, forall_const, implies_true, Nat.reduceAdd, Nat.reduceSub, Nat.reduceMul, Nat.reduceLT, Nat.reduceLeDiff, Int.reduceToNat, Int.reduceAdd, Int.reduceSub, Int.reduceNeg, Int.reduceMul, Int.reduceLT, Int.reduceLE, Int.reduceEq]
            exact bags_fin1 hn hlt' (by rw [hstep, e4, e3, e2, e1]; cases twiceF l k c <;> cases tk.contains c.tic <;> simp [hli, hov]) htn (hs.next hc hli2 hcp2) ⟨rfl, rfl, rfl, rfl, rfl, rfl, rfl, rfl, trivial⟩
end Go.Proofs.YteeenlgoildmiabDoor
