/- TopMessages returns true for every input of bulk at most 1048576, and the input reads as it did: the row, and the card. No further condition. -/
import Derived.Test.YtlnpfnoemhjheaaGreatDoorMAlB
import Derived.Test.YtlnpfnoemhjheaaGreatDoorMLk5
import Derived.Test.YtlnpfnoemhjheaaGreatDoorCards
import Derived.Test.YtlnpfnoemhjheaaGreatDoorTie
import Derived.WalkKit
import Derived.ProofKit
import Derived.OpenShut
import Derived.Deep.DeepHandedRow
import Derived.Lib.LaidTab
import Derived.Stop.LaidErr
namespace Go.Proofs.YtlnpfnoemhjheaaGreatDoor.topMessages
open Go Go.AL Go.ChangeShapes Go.WideShapes Go.ChangeAt Go.RowKit
set_option linter.unusedVariables false

theorem own : ownKnob Tryz.prog.godebug = none := by kernel_rfl

set_option linter.unusedSectionVars false
section
variable [Go.AL.Mode] [Go.AL.LooseM]
def wfS (x : St) : Prop := (IntKind.i64.min ≤ x.t ∧ x.t ≤ IntKind.i64.max) ∧ (IntKind.i64.min ≤ x.c ∧ x.c ≤ IntKind.i64.max) ∧ (IntKind.i64.min ≤ x.v ∧ x.v ≤ IntKind.i64.max) ∧ (IntKind.i64.min ≤ x.s ∧ x.s ≤ IntKind.i64.max)
theorem one : Opens Tryz.prog 41 stR wfS :=
  Opens.as (Opens.struct Tryz.underlying41 (by kernel_rfl) (OpensL.cons (Opens.int (k := .i64) (by kernel_rfl)) (OpensL.cons (Opens.int (k := .i64) (by kernel_rfl)) (OpensL.cons (Opens.int (k := .i64) (by kernel_rfl)) (OpensL.one (Opens.int (k := .i64) (by kernel_rfl))))))) stR wfS (fun p : Int × Int × Int × Int => St.mk p.1 p.2.1 p.2.2.1 p.2.2.2) (fun _ => rfl) (fun _ h => h)
theorem sts : Opens Tryz.prog 22 (fun l : List St => [stSl l]) (fun l => ∀ a ∈ l, wfS a) :=
  Opens.slice (q := 41) (sz := 4) (by kernel_rfl) (by kernel_rfl) (by omega) (fun _ => rfl) one
theorem ok_of {l : List St} (h : ∀ a ∈ l, wfS a) : ∀ a ∈ l, okX a := fun a ha => h a ha
theorem boO : Opens Tryz.prog 4 Lk.bI (fun _ => True) := Opens.as (Opens.bool (by kernel_rfl)) Lk.bI (fun _ => True) (fun p : Bool => p) (fun _ => rfl) (fun _ _ => trivial)
theorem bosO : Opens Tryz.prog 31 (fun l : List Bool => [.sl 1 (l.map Lk.bI)]) (fun _ => True) :=
  Opens.as (Opens.slice (q := 4) (sz := 1) (by kernel_rfl) (by kernel_rfl) (by omega) (fun _ => rfl) boO) (fun l : List Bool => [.sl 1 (l.map Lk.bI)]) (fun _ => True) (fun p => p) (fun _ => rfl) (fun _ _ => trivial)
def en (p : List St × List Bool × Unit) : List V := [stSl p.1, .sl 1 (p.2.1.map Lk.bI)]
def wf (p : List St × List Bool × Unit) : Prop := (∀ a ∈ p.1, wfS a) ∧ True ∧ True
theorem opens : ArgsOpen Tryz.prog Tryz.f4.params.toList en wf :=
  ArgsOpen.cons (Opens.argOpen sts (by kernel_rfl)) (ArgsOpen.cons (Opens.argOpen bosO (by kernel_rfl)) ArgsOpen.nil)
theorem called (p : List St × List Bool × Unit) (hw : wf p) (hb : cellsBulk (en p) ≤ 1048576) : CallA Tryz.prog 4 (en p) [] fun r _ => r = .bool true :=
  (Lk.law_msgs p.1 p.2.1 (ok_of hw.1) []).mono fun r S h => h.1
end
theorem var_iface {P : Program} {n nm : String} {d : DataW Unit} {r : List (String × DataW Unit)} {W : World} {g : Nat} {ti : TypeId} {ms : Array (String × TypeId)}
    (h : laidMet P ((n, .iface nm d) :: r) W) (hg : P.globalNamed n = some g) (ht : (P.globals[g]?).map (·.type) = some ti) (hi : P.underlying ti = some (.interface ms)) : ∃ te pe t fr, W.heap[g]? = some (Go.Obj.cells #[.iface te pe] t fr) := by
  obtain ⟨ps, ⟨g0, t0, cs0, f0, p0, q0, hg0, ht0, hv0, hd0, _, e0⟩, _, hrows⟩ := h
  obtain rfl := Option.some.inj (hg.symm.trans hg0)
  obtain rfl := Option.some.inj (ht.symm.trans ht0)
  unfold World.var? at hv0
  rw [hg] at hv0
  simp only [Option.bind_some] at hv0
  have hs : ∃ te pe, cs0 = #[.iface te pe] := by
    obtain ⟨l0⟩ := cs0
    cases f0 with
    | zero => simp [DataW.trod] at hd0
    | succ f =>
      match l0, hd0 with
      | [], hd0 => simp [DataW.trod, hi] at hd0
      | [x], hd0 => cases x <;> first | exact ⟨_, _, rfl⟩ | (exfalso; simp [DataW.trod, hi] at hd0)
      | x :: y :: l, hd0 => simp [DataW.trod, hi] at hd0
  obtain ⟨te, pe, rfl⟩ := hs
  split at hv0
  · next cs t fr hh =>
    cases hv0
    exact ⟨te, pe, t, fr, hh⟩
  · cases hv0
/-- What the error's variable holds in this world. -/
def errOf (W : World) : Value := match W.heap[4]? with
  | some (Go.Obj.cells c _ _) => match c.toList with
    | [.iface t v] => .iface t v
    | _ => .nilIface
  | _ => .nilIface
theorem errOf_ok (W : World) : errOf W = .nilIface ∨ ∃ te pe, errOf W = .iface te pe := by
  unfold errOf
  split
  · split
    · exact .inr ⟨_, _, rfl⟩
    · exact .inl rfl
  · exact .inl rfl
@[reducible] def modeOf (W : World) : Go.AL.Mode := { strict := False, err := errOf W, errOk := errOf_ok W }
theorem looseOf (W : World)   : @Go.AL.LooseM (modeOf W) := @Go.AL.LooseM.mk (modeOf W) fun h => h
theorem glob2 : Tryz.prog.globalNamed "internal/strconv.uint64pow10" = some 2 := by kernel_rfl
theorem glob4 : Tryz.prog.globalNamed "strconv.ErrRange" = some 4 := by kernel_rfl
theorem tab2 {W : World} (h : laidMet Tryz.prog Rows.topMessagesUptoRow.laid W) : ∃ t fr, W.heap[2]? = some (Go.Obj.cells (Lib.pow10Tab.map fun z => Value.int .u64 z).toArray t fr) := by
  have h3 : laidMet Tryz.prog (("internal/strconv.uint64pow10", Lib.tabData .u64 Lib.pow10Tab) :: _) W := h.tail.tail.tail
  have h4 := Lib.tabIs_of_head glob2 (t := 206) (e := 122) (n := 20) (by kernel_rfl) (by kernel_rfl) (by kernel_rfl) (by kernel_rfl) (by kernel_rfl) h3
  unfold Lib.TabIs World.var? at h4
  rw [glob2] at h4
  simp only [Option.bind_some] at h4
  split at h4
  · next cs t fr hh =>
    cases h4
    exact ⟨t, fr, hh⟩
  · cases h4
theorem tab4 {W : World} (h : laidMet Tryz.prog Rows.topMessagesUptoRow.laid W) : ∃ t fr, W.heap[4]? = some (Go.Obj.cells #[errOf W] t fr) := by
  obtain ⟨te, pe, t, fr, hh⟩ := var_iface (ti := 115) (h.tail.tail.tail.tail : laidMet Tryz.prog (("strconv.ErrRange", .iface "*errors.errorString" _) :: _) W) glob4 (by kernel_rfl) Tryz.underlying115
  refine ⟨t, fr, ?_⟩
  have : errOf W = .iface te pe := by
    unfold errOf
    rw [hh]
  rw [this]
  exact hh
def lenT : List Int := [31, 28, 31, 30, 31, 30, 31, 31, 30, 31, 30, 31]
theorem glob0 : Tryz.prog.globalNamed "airline/calendar.lengths" = some 0 := by kernel_rfl
theorem tab0 {W : World} (h : laidMet Tryz.prog Rows.topMessagesUptoRow.laid W) : ∃ t fr, W.heap[0]? = some (Go.Obj.cells (lenT.map fun z => Value.int .i64 z).toArray t fr) := by
  have h4 := Lib.tabIs_of_head glob0 (t := 183) (e := 3) (n := 12) (by kernel_rfl) (by kernel_rfl) (by kernel_rfl) (by kernel_rfl) (by kernel_rfl) (show laidMet Tryz.prog (("airline/calendar.lengths", Lib.tabData .i64 lenT) :: _) W from h)
  unfold Lib.TabIs World.var? at h4
  rw [glob0] at h4
  simp only [Option.bind_some] at h4
  split at h4
  · next cs t fr hh =>
    cases h4
    exact ⟨t, fr, hh⟩
  · cases h4
theorem tabW {W : World} (h : laidMet Tryz.prog Rows.topMessagesUptoRow.laid W) : @TabW (modeOf W) W := by
  intro p hp
  simp only [tabs, List.mem_cons, List.not_mem_nil, or_false] at hp
  rcases hp with rfl | rfl | rfl
  · obtain ⟨t, fr, hh⟩ := tab0 h
    exact ⟨(Array.getElem?_eq_some_iff.1 hh).1, t, fr, hh.trans rfl⟩
  · obtain ⟨t, fr, hh⟩ := tab2 h
    exact ⟨(Array.getElem?_eq_some_iff.1 hh).1, t, fr, hh.trans rfl⟩
  · obtain ⟨t, fr, hh⟩ := tab4 h
    exact ⟨(Array.getElem?_eq_some_iff.1 hh).1, t, fr, hh.trans rfl⟩


set_option maxRecDepth 100000 in
theorem contract (H : Type) (enc : TypeId × Value → H) (W : World) (base : Nat) (args : Array Value) (ds gs : List (DataW H)) (before : List MemPlace)
    (hval : ∀ (j : Nat) t v, Tryz.f4.params[j]? = some t → args[j]? = some v → Value.okWide Tryz.prog W .any base t v)
    (hW : DataW.Whole enc Tryz.prog Tryz.f4.params.toList Rows.topMessagesSpec.vars false W args.toList ds gs before) (hk : Rows.uptoSmall H (ds ++ gs) = true) (hL : laidMet Tryz.prog Rows.topMessagesUptoRow.laid W) :
    Calls Tryz.prog 4 args W fun e W' => ∃ v, e = .returned v ∧ Rows.topMessagesSpec.post enc Tryz.prog Tryz.f4 false true false false W args v W' :=
  letI : Go.AL.Mode := modeOf W
  letI : Go.AL.LooseM := looseOf W
  law_contract (tb := 4) opens called rfl (by kernel_rfl) (by kernel_rfl) (fun H ds h => by
    have h' : ds.length = 2 := h
    match ds, h' with
    | [d1, d2], _ => exact ⟨rfl, rfl, rfl⟩) hval hW hk (ht := tabW hL)

/-- A world for the witness: the settled one, the tables holding what their initialisers lay. -/
noncomputable def low : Nat := (World.holding Tryz.prog default ⟨#[], #[], []⟩).heap.size
noncomputable def laidWorld (os : Os) : World :=
  { World.holding Tryz.prog os ⟨#[.cells #[.string { data := #[105, 110, 118, 97, 108, 105, 100, 32, 115, 121, 110, 116, 97, 120] }] 216, .cells #[.string { data := #[118, 97, 108, 117, 101, 32, 111, 117, 116, 32, 111, 102, 32, 114, 97, 110, 103, 101] }] 216], #[], []⟩ with heap := (((((((World.holding Tryz.prog os ⟨#[.cells #[.string { data := #[105, 110, 118, 97, 108, 105, 100, 32, 115, 121, 110, 116, 97, 120] }] 216, .cells #[.string { data := #[118, 97, 108, 117, 101, 32, 111, 117, 116, 32, 111, 102, 32, 114, 97, 110, 103, 101] }] 216], #[], []⟩).heap).modify 3 (fun | .cells _ t frozen => .cells #[.iface 214 (.pointer (some ⟨low + 0, 0, none⟩))] t frozen | o => o)).modify 4 (fun | .cells _ t frozen => .cells #[.iface 214 (.pointer (some ⟨low + 1, 0, none⟩))] t frozen | o => o)).modify 0 (fun | .cells _ t frozen => .cells #[.int .i64 31, .int .i64 28, .int .i64 31, .int .i64 30, .int .i64 31, .int .i64 30, .int .i64 31, .int .i64 31, .int .i64 30, .int .i64 31, .int .i64 30, .int .i64 31] t frozen | o => o)).modify 2 (fun | .cells _ t frozen => .cells #[.int .u64 1, .int .u64 10, .int .u64 100, .int .u64 1000, .int .u64 10000, .int .u64 100000, .int .u64 1000000, .int .u64 10000000, .int .u64 100000000, .int .u64 1000000000, .int .u64 10000000000, .int .u64 100000000000, .int .u64 1000000000000, .int .u64 10000000000000, .int .u64 100000000000000, .int .u64 1000000000000000, .int .u64 10000000000000000, .int .u64 100000000000000000, .int .u64 1000000000000000000, .int .u64 10000000000000000000] t frozen | o => o)).modify 5 (fun | .cells _ t frozen => .cells #[.int .u8 0, .int .u8 1, .int .u8 28, .int .u8 2, .int .u8 29, .int .u8 14, .int .u8 24, .int .u8 3, .int .u8 30, .int .u8 22, .int .u8 20, .int .u8 15, .int .u8 25, .int .u8 17, .int .u8 4, .int .u8 8, .int .u8 31, .int .u8 27, .int .u8 13, .int .u8 23, .int .u8 21, .int .u8 19, .int .u8 16, .int .u8 7, .int .u8 26, .int .u8 12, .int .u8 18, .int .u8 6, .int .u8 11, .int .u8 5, .int .u8 10, .int .u8 9] t frozen | o => o)).modify 6 (fun | .cells _ t frozen => .cells #[.int .u8 0, .int .u8 1, .int .u8 56, .int .u8 2, .int .u8 57, .int .u8 49, .int .u8 28, .int .u8 3, .int .u8 61, .int .u8 58, .int .u8 42, .int .u8 50, .int .u8 38, .int .u8 29, .int .u8 17, .int .u8 4, .int .u8 62, .int .u8 47, .int .u8 59, .int .u8 36, .int .u8 45, .int .u8 43, .int .u8 51, .int .u8 22, .int .u8 53, .int .u8 39, .int .u8 33, .int .u8 30, .int .u8 24, .int .u8 18, .int .u8 12, .int .u8 5, .int .u8 63, .int .u8 55, .int .u8 48, .int .u8 27, .int .u8 60, .int .u8 41, .int .u8 37, .int .u8 16, .int .u8 46, .int .u8 35, .int .u8 44, .int .u8 21, .int .u8 52, .int .u8 32, .int .u8 23, .int .u8 11, .int .u8 54, .int .u8 26, .int .u8 40, .int .u8 15, .int .u8 34, .int .u8 20, .int .u8 31, .int .u8 10, .int .u8 25, .int .u8 14, .int .u8 19, .int .u8 9, .int .u8 13, .int .u8 8, .int .u8 7, .int .u8 6] t frozen | o => o) }
def wit : Array Value := #[.slice none 0 0, .slice none 0 0]
theorem laid_met (os : Os) : laidMet Tryz.prog Rows.topMessagesUptoRow.laid ((laidWorld os).forCall (fun _ _ => 0) ⟨#[], wit, []⟩).memory :=
  laidMet_of_run' 8 (by kernel_rfl) (by kernel_rfl)
theorem reads (os : Os) {H : Type} (enc : TypeId × Value → H) : ∃ places, DataW.whole enc Tryz.prog ((laidWorld os).forCall (fun _ _ => 0) ⟨#[], wit, []⟩).memory Tryz.f4.params.toList Rows.topMessagesSpec.vars false wit.toList 8 = some ([.nil, .nil], [], places) :=
  ⟨[], by kernel_rfl⟩

set_option maxRecDepth 100000 in
theorem lifted (os : Os) (started : os.Started) (H : Type) (enc : TypeId × Value → H) (F : Stop.Interp) :
    ReturnsInHanded {} Tryz.checked os 4 .any ((Rows.OpenSpec.upto Rows.topMessagesSpec).preRow enc Tryz.prog Tryz.f4 Rows.topMessagesUptoRow.domain false Rows.topMessagesUptoRow.laid) (((Rows.OpenSpec.upto Rows.topMessagesSpec).at F).post enc Tryz.prog Tryz.f4 false true false false) := by
  obtain ⟨places, hx⟩ := reads os enc
  refine returnsInHanded_of_row (C := Tryz.checked) (s := Rows.OpenSpec.upto Rows.topMessagesSpec) own started (by kernel_rfl) Tryz.func4
    (witness_row_at (enc := enc) (C := Tryz.checked) false (laidWorld os) wit rfl (by kernel_rfl) (by kernel_rfl) (by kernel_rfl)
      (OpenSpec.preRow_of_cond 8 hx (by kernel_rfl) (fun k hk => by cases hk; kernel_rfl) (by kernel_rfl) (laid_met os))) ?_
  intro W base args ds gs before hval hW h1 hcond h3 hL h5 h6
  exact contract H enc W base args ds gs before hval hW (hcond _ rfl) hL

theorem over : Rows.TopMessagesUptoSaid :=
  OpenClaim.holds_of_cond 4 Tryz.f4 rfl rfl rfl rfl rfl rfl rfl ⟨rfl, rfl, rfl, rfl, rfl⟩ rfl rfl rfl rfl rfl (by kernel_rfl) Tryz.func4 (by kernel_rfl)
    (of_decide_eq_true (by kernel_rfl)) (by unfold Func.isWrapper; first | (rw [if_pos (by decide +kernel)]; kernel_rfl) | (rw [if_neg (by decide +kernel)]; exact ⟨rfl, rfl⟩))
    (fun os started H enc _ F => by rw [OpenClaim.pre_eq_preRow]; exact lifted os started H enc F)

theorem plain (f : FuncId) (fn : Func) (hf : Tryz.pinned.checked.prog.funcNamed "airline/airlinetop.TopMessages" = some f) (hfn : Tryz.pinned.checked.prog.funcs[f]? = some fn) :
    true = Tryz.pinned.checked.prog.looks [] ∧ ∀ (j : Nat) t, fn.params[j]? = some t → Tryz.pinned.checked.prog.wantsStandIn t = false := by
  obtain rfl : f = 4 := Option.some.inj ((show Tryz.prog.funcNamed "airline/airlinetop.TopMessages" = some 4 by kernel_rfl).symm.trans hf) |>.symm
  obtain rfl : fn = Tryz.f4 := (Option.some.inj (Tryz.func4.symm.trans hfn)).symm
  refine ⟨by kernel_rfl, fun j t ht => ?_⟩
  rw [Tryz.params4] at ht
  match j, ht with
  | 0, ht => obtain rfl := Option.some.inj (show some 22 = some t from ht); exact (show Tryz.prog.wantsStandIn 22 = false by kernel_rfl)
  | 1, ht => obtain rfl := Option.some.inj (show some 31 = some t from ht); exact (show Tryz.prog.wantsStandIn 31 = false by kernel_rfl)
  | n + 2, ht => simp at ht

theorem proved : Rows.TopMessagesUptoCardSaid :=
  Claim7.holds_tied_plain_at .later [] _ _ _ _ over (fun _ h => by cases h) (by kernel_rfl) (fun _ h => by cases h) topMessagesUpto_row_tie rfl ⟨rfl, rfl⟩ (by kernel_rfl) rfl plain (by kernel_rfl)
end Go.Proofs.YtlnpfnoemhjheaaGreatDoor.topMessages
