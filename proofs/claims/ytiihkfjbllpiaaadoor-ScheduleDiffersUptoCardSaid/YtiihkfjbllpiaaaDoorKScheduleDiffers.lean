/- ScheduleDiffers returns true for every input of bulk at most 1048576, and the input reads as it did: the row, and the card. No further condition. -/
import Derived.Test.YtiihkfjbllpiaaaDoorAlC
import Derived.Test.YtiihkfjbllpiaaaDoorSmc
import Derived.Test.YtiihkfjbllpiaaaDoorCards
import Derived.Test.YtiihkfjbllpiaaaDoorTie
import Derived.WalkKit
import Derived.ProofKit
import Derived.OpenShut
import Derived.Deep.DeepHandedRow
import Derived.Lib.LaidTab
namespace Go.Proofs.YtiihkfjbllpiaaaDoor.scheduleDiffers
open Go Go.AL Go.ChangeShapes Go.WideShapes Go.ChangeAt Go.RowKit
instance modeI : Go.AL.Mode := ⟨False⟩
instance looseI : Go.AL.LooseM := ⟨fun h => h⟩
set_option linter.unusedVariables false

theorem own : ownKnob Tryd.prog.godebug = none := by kernel_rfl

theorem pdO : Opens Tryd.prog 28 pdR (fun _ => True) :=
  Opens.as (Opens.struct Tryd.underlying28 (by kernel_rfl) (OpensL.cons (Opens.int (k := .i64) (by kernel_rfl)) (OpensL.cons (Opens.int (k := .i64) (by kernel_rfl)) (OpensL.one (Opens.int (k := .i64) (by kernel_rfl)))))) pdR (fun _ => True) (fun p : Int × Int × Int => Pd.mk p.1 p.2.1 p.2.2) (fun _ => rfl) (fun _ _ => trivial)
theorem lgO : Opens Tryd.prog 64 lgR (fun _ => True) :=
  Opens.as (Opens.struct Tryd.underlying64 (by kernel_rfl) (OpensL.cons (Opens.str (by kernel_rfl)) (OpensL.cons (Opens.str (by kernel_rfl)) (OpensL.cons (Opens.int (k := .i64) (by kernel_rfl)) (OpensL.cons (Opens.int (k := .i64) (by kernel_rfl)) (OpensL.one (Opens.str (by kernel_rfl)))))))) lgR (fun _ => True) (fun p : Txt × Txt × Int × Int × Txt => Lg.mk p.1 p.2.1 p.2.2.1 p.2.2.2.1 p.2.2.2.2) (fun _ => rfl) (fun _ _ => trivial)
theorem flO : Opens Tryd.prog 39 flR (fun _ => True) :=
  Opens.as (Opens.struct Tryd.underlying39 (by kernel_rfl) (OpensL.cons (Opens.str (by kernel_rfl)) (OpensL.cons (Opens.int (k := .i64) (by kernel_rfl)) (OpensL.cons pdO (OpensL.one (Opens.slice (q := 64) (sz := 5) (by kernel_rfl) (by kernel_rfl) (by omega) (fun _ => rfl) lgO)))))) flR (fun _ => True) (fun p : Txt × Int × Pd × List Lg => Fl.mk p.1 p.2.1 p.2.2.1 p.2.2.2) (fun _ => rfl) (fun _ _ => trivial)
theorem flightsO : Opens Tryd.prog 22 (fun l : List Fl => [.sl 6 (l.map flR)]) (fun l => ∀ b ∈ l, True) :=
  Opens.slice (q := 39) (sz := 6) (by kernel_rfl) (by kernel_rfl) (by omega) (fun _ => rfl) flO
theorem flB (x : Fl) : x.legs.length + 6 ≤ cellsBulk (flR x) := by
  have h := rowsBulk_len (x.legs.map lgR) (fun r hr => by obtain ⟨n, _, rfl⟩ := List.mem_map.1 hr; simp only [cellsBulk, lgR, V.bulk]; omega)
  simp only [List.length_map] at h
  simp only [cellsBulk, flR, V.bulk]
  omega
theorem flsm {l : List Fl} (h : (V.sl 6 (l.map flR)).bulk ≤ 1048576) : l.length ≤ 1100000 ∧ ∀ x ∈ l, x.legs.length ≤ 1100000 := by
  have h1 := rowsBulk_len (l.map flR) (fun r hr => by obtain ⟨n, _, rfl⟩ := List.mem_map.1 hr; have := flB n; omega)
  simp only [List.length_map] at h1
  simp only [V.bulk] at h
  refine ⟨by omega, fun x hx => ?_⟩
  have h3 := rowsBulk_mem (rows := l.map flR) (r := flR x) (List.mem_map_of_mem hx)
  have := flB x
  omega
theorem akO : Opens Tryd.prog 26 akR (fun _ => True) :=
  Opens.as (Opens.struct Tryd.underlying26 (by kernel_rfl) (OpensL.cons (Opens.str (by kernel_rfl)) (OpensL.cons (Opens.int (k := .i64) (by kernel_rfl)) (OpensL.cons (Opens.int (k := .i64) (by kernel_rfl)) (OpensL.cons (Opens.str (by kernel_rfl)) (OpensL.one (Opens.str (by kernel_rfl)))))))) akR (fun _ => True) (fun p : Txt × Int × Int × Txt × Txt => Ak.mk p.1 p.2.1 p.2.2.1 p.2.2.2.1 p.2.2.2.2) (fun _ => rfl) (fun _ _ => trivial)
theorem prO : Opens Tryd.prog 24 (fun p : List Fl × List Fl => prR p.1 p.2) (fun _ => True) :=
  Opens.as (Opens.struct Tryd.underlying24 (by kernel_rfl) (OpensL.cons (Opens.slice (q := 39) (sz := 6) (by kernel_rfl) (by kernel_rfl) (by omega) (fun _ => rfl) flO) (OpensL.one (Opens.slice (q := 39) (sz := 6) (by kernel_rfl) (by kernel_rfl) (by omega) (fun _ => rfl) flO)))) (fun p : List Fl × List Fl => prR p.1 p.2) (fun _ => True) (fun p => p) (fun _ => rfl) (fun _ _ => trivial)
def en (p : (List Fl × List Fl) × Ak × Pd × Unit) : List V := [.agg (prR p.1.1 p.1.2), .agg (akR p.2.1), .agg (pdR p.2.2.1)]
def wf (p : (List Fl × List Fl) × Ak × Pd × Unit) : Prop := True ∧ True ∧ True ∧ True
theorem opens : ArgsOpen Tryd.prog Tryd.f3.params.toList en wf :=
  ArgsOpen.cons (Opens.argsOpen Tryd.underlying24 prO) (ArgsOpen.cons (Opens.argsOpen Tryd.underlying26 akO) (ArgsOpen.cons (Opens.argsOpen Tryd.underlying28 pdO) ArgsOpen.nil))
theorem called (p : (List Fl × List Fl) × Ak × Pd × Unit) (_ : wf p) (hb : cellsBulk (en p) ≤ 1048576) : CallA Tryd.prog 3 (en p) [] fun r _ => r = .bool true := by
  have h1 := cellsBulk_mem (vs := en p) (v := .agg (prR p.1.1 p.1.2)) (by simp [en])
  simp only [prR, V.bulk, cellsBulk] at h1
  have hf := flsm (l := p.1.1) (by simp only [V.bulk]; omega)
  have hg := flsm (l := p.1.2) (by simp only [V.bulk]; omega)
  exact (sl_differs p.1.1 p.1.2 p.2.1 p.2.2.1 ⟨hf.1, hf.2⟩ ⟨hg.1, hg.2⟩ []).mono fun r S h => h.1

set_option maxRecDepth 100000 in
theorem contract (H : Type) (enc : TypeId × Value → H) (W : World) (base : Nat) (args : Array Value) (ds gs : List (DataW H)) (before : List MemPlace)
    (hval : ∀ (j : Nat) t v, Tryd.f3.params[j]? = some t → args[j]? = some v → Value.okWide Tryd.prog W .any base t v)
    (hW : DataW.Whole enc Tryd.prog Tryd.f3.params.toList Rows.scheduleDiffersSpec.vars false W args.toList ds gs before) (hk : Rows.uptoSmall H (ds ++ gs) = true) :
    Calls Tryd.prog 3 args W fun e W' => ∃ v, e = .returned v ∧ Rows.scheduleDiffersSpec.post enc Tryd.prog Tryd.f3 false true false false W args v W' :=
  law_contract (tb := 4) opens called rfl (by kernel_rfl) (by kernel_rfl) (fun H ds h => by
    have h' : ds.length = 3 := h
    match ds, h' with
    | [d1, d2, d3], _ => exact ⟨rfl, rfl, rfl⟩) hval hW hk

/-- A world for the witness: the settled one, the tables holding what their initialisers lay. -/
noncomputable def laidWorld (os : Os) : World :=
  { World.holding Tryd.prog os ⟨#[], #[], []⟩ with heap := (((((World.holding Tryd.prog os ⟨#[], #[], []⟩).heap).modify 0 (fun | .cells _ t frozen => .cells #[.int .u64 1, .int .u64 10, .int .u64 100, .int .u64 1000, .int .u64 10000, .int .u64 100000, .int .u64 1000000, .int .u64 10000000, .int .u64 100000000, .int .u64 1000000000, .int .u64 10000000000, .int .u64 100000000000, .int .u64 1000000000000, .int .u64 10000000000000, .int .u64 100000000000000, .int .u64 1000000000000000, .int .u64 10000000000000000, .int .u64 100000000000000000, .int .u64 1000000000000000000, .int .u64 10000000000000000000] t frozen | o => o)).modify 1 (fun | .cells _ t frozen => .cells #[.int .i64 31, .int .i64 28, .int .i64 31, .int .i64 30, .int .i64 31, .int .i64 30, .int .i64 31, .int .i64 31, .int .i64 30, .int .i64 31, .int .i64 30, .int .i64 31] t frozen | o => o)).modify 2 (fun | .cells _ t frozen => .cells #[.int .u8 0, .int .u8 1, .int .u8 28, .int .u8 2, .int .u8 29, .int .u8 14, .int .u8 24, .int .u8 3, .int .u8 30, .int .u8 22, .int .u8 20, .int .u8 15, .int .u8 25, .int .u8 17, .int .u8 4, .int .u8 8, .int .u8 31, .int .u8 27, .int .u8 13, .int .u8 23, .int .u8 21, .int .u8 19, .int .u8 16, .int .u8 7, .int .u8 26, .int .u8 12, .int .u8 18, .int .u8 6, .int .u8 11, .int .u8 5, .int .u8 10, .int .u8 9] t frozen | o => o)).modify 3 (fun | .cells _ t frozen => .cells #[.int .u8 0, .int .u8 1, .int .u8 56, .int .u8 2, .int .u8 57, .int .u8 49, .int .u8 28, .int .u8 3, .int .u8 61, .int .u8 58, .int .u8 42, .int .u8 50, .int .u8 38, .int .u8 29, .int .u8 17, .int .u8 4, .int .u8 62, .int .u8 47, .int .u8 59, .int .u8 36, .int .u8 45, .int .u8 43, .int .u8 51, .int .u8 22, .int .u8 53, .int .u8 39, .int .u8 33, .int .u8 30, .int .u8 24, .int .u8 18, .int .u8 12, .int .u8 5, .int .u8 63, .int .u8 55, .int .u8 48, .int .u8 27, .int .u8 60, .int .u8 41, .int .u8 37, .int .u8 16, .int .u8 46, .int .u8 35, .int .u8 44, .int .u8 21, .int .u8 52, .int .u8 32, .int .u8 23, .int .u8 11, .int .u8 54, .int .u8 26, .int .u8 40, .int .u8 15, .int .u8 34, .int .u8 20, .int .u8 31, .int .u8 10, .int .u8 25, .int .u8 14, .int .u8 19, .int .u8 9, .int .u8 13, .int .u8 8, .int .u8 7, .int .u8 6] t frozen | o => o) }
def wit : Array Value := #[.agg #[.slice none 0 0, .slice none 0 0], .agg #[.string ⟨#[]⟩, .int .i64 0, .int .i64 0, .string ⟨#[]⟩, .string ⟨#[]⟩], .agg #[.int .i64 0, .int .i64 0, .int .i64 0]]
theorem laid_met (os : Os) : laidMet Tryd.prog Rows.scheduleDiffersUptoRow.laid ((laidWorld os).forCall (fun _ _ => 0) ⟨#[], wit, []⟩).memory :=
  laidMet_of_run' 8 (by kernel_rfl) (by kernel_rfl)
theorem reads (os : Os) {H : Type} (enc : TypeId × Value → H) : ∃ places, DataW.whole enc Tryd.prog ((laidWorld os).forCall (fun _ _ => 0) ⟨#[], wit, []⟩).memory Tryd.f3.params.toList Rows.scheduleDiffersSpec.vars false wit.toList 8 = some ([.agg [.nil, .nil], .agg [.lit (.string []), .lit (.int .i64 0), .lit (.int .i64 0), .lit (.string []), .lit (.string [])], .agg [.lit (.int .i64 0), .lit (.int .i64 0), .lit (.int .i64 0)]], [], places) :=
  ⟨[], by kernel_rfl⟩

set_option maxRecDepth 100000 in
theorem lifted (os : Os) (started : os.Started) (H : Type) (enc : TypeId × Value → H) (F : Stop.Interp) :
    ReturnsInHanded {} Tryd.checked os 3 .any ((Rows.OpenSpec.upto Rows.scheduleDiffersSpec).preRow enc Tryd.prog Tryd.f3 Rows.scheduleDiffersUptoRow.domain false Rows.scheduleDiffersUptoRow.laid) (((Rows.OpenSpec.upto Rows.scheduleDiffersSpec).at F).post enc Tryd.prog Tryd.f3 false true false false) := by
  obtain ⟨places, hx⟩ := reads os enc
  refine returnsInHanded_of_row (C := Tryd.checked) (s := Rows.OpenSpec.upto Rows.scheduleDiffersSpec) own started (by kernel_rfl) Tryd.func3
    (witness_row_at (enc := enc) (C := Tryd.checked) false (laidWorld os) wit rfl (by kernel_rfl) (by kernel_rfl) (by kernel_rfl)
      (OpenSpec.preRow_of_cond 8 hx (by kernel_rfl) (fun k hk => by cases hk; kernel_rfl) (by kernel_rfl) (laid_met os))) ?_
  intro W base args ds gs before hval hW h1 hcond h3 hL h5 h6
  exact contract H enc W base args ds gs before hval hW (hcond _ rfl)

theorem over : Rows.ScheduleDiffersUptoSaid :=
  OpenClaim.holds_of_cond 3 Tryd.f3 rfl rfl rfl rfl rfl rfl rfl ⟨rfl, rfl, rfl, rfl, rfl⟩ rfl rfl rfl rfl rfl (by kernel_rfl) Tryd.func3 (by kernel_rfl)
    (of_decide_eq_true (by kernel_rfl)) (by unfold Func.isWrapper; first | (rw [if_pos (by decide +kernel)]; kernel_rfl) | (rw [if_neg (by decide +kernel)]; exact ⟨rfl, rfl⟩))
    (fun os started H enc _ F => by rw [OpenClaim.pre_eq_preRow]; exact lifted os started H enc F)

theorem plain (f : FuncId) (fn : Func) (hf : Tryd.pinned.checked.prog.funcNamed "airline/airlinelaw08.ScheduleDiffers" = some f) (hfn : Tryd.pinned.checked.prog.funcs[f]? = some fn) :
    false = Tryd.pinned.checked.prog.looks [] ∧ ∀ (j : Nat) t, fn.params[j]? = some t → Tryd.pinned.checked.prog.wantsStandIn t = false := by
  obtain rfl : f = 3 := Option.some.inj ((show Tryd.prog.funcNamed "airline/airlinelaw08.ScheduleDiffers" = some 3 by kernel_rfl).symm.trans hf) |>.symm
  obtain rfl : fn = Tryd.f3 := (Option.some.inj (Tryd.func3.symm.trans hfn)).symm
  refine ⟨by kernel_rfl, fun j t ht => ?_⟩
  rw [Tryd.params3] at ht
  match j, ht with
  | 0, ht => obtain rfl := Option.some.inj (show some 24 = some t from ht); exact (show Tryd.prog.wantsStandIn 24 = false by kernel_rfl)
  | 1, ht => obtain rfl := Option.some.inj (show some 26 = some t from ht); exact (show Tryd.prog.wantsStandIn 26 = false by kernel_rfl)
  | 2, ht => obtain rfl := Option.some.inj (show some 28 = some t from ht); exact (show Tryd.prog.wantsStandIn 28 = false by kernel_rfl)
  | n + 3, ht => simp at ht

theorem proved : Rows.ScheduleDiffersUptoCardSaid :=
  Claim7.holds_tied_plain_at .later [] _ _ _ _ over (fun _ h => by cases h) (by kernel_rfl) (fun _ h => by cases h) scheduleDiffersUpto_row_tie rfl ⟨rfl, rfl⟩ (by kernel_rfl) rfl plain (by kernel_rfl)
end Go.Proofs.YtiihkfjbllpiaaaDoor.scheduleDiffers
