/- An end of a link takes a message: a call through an interface, walked in memory. -/
import Derived.Test.YtlnpfnoemhjheaaGreatDoorMRnC
import Derived.Test.YtlnpfnoemhjheaaGreatDoorMAlX
import Derived.Test.YtlnpfnoemhjheaaGreatDoorMAlM
import Derived.Laws.Small
import Derived.Laws.BytesString
import Derived.Scope
import Derived.FnLit
import Derived.RegionTactic
import Derived.LoopTactic
import Derived.Deep.RegionWith
import Derived.WalkKit
namespace Go.Proofs.YtlnpfnoemhjheaaGreatDoor
open Go Go.AL
set_option linter.unusedSectionVars false
variable [Go.AL.Mode] [Go.AL.LooseM]
set_option linter.unusedSimpArgs false
set_option linter.unusedVariables false
theorem ready_R (q : Nat) (bv : V) (S : Store) (h : S.obj? q 0 = some (81, 2, [[bv, .bool true]])) : CallA Tryz.prog 166 [.ptr q 0 0 0] S fun r S' => r = .bool true ∧ S' = S := by
  refine CallA.keep Tryz.func166 c9166 (Nat.le_of_ble_eq_true rfl) fun σ hσ => ?_
  simp (disch := first | omega | (simp only [lenT]; omega)) only [a9166, h, evSt, ↓evPre, ↓evPreW, evPost, evPostW, evR, evU, seval]
theorem ready_S (p : Nat) (n a : Int) (kv : V) (S : Store) (h : S.obj? p 0 = some (79, 4, [[.int .i64 40, .int .i64 n, .int .i64 a, kv]])) : CallA Tryz.prog 37 [.ptr p 0 0 0] S fun r S' => r = .bool true ∧ S' = S := by
  refine CallA.keep Tryz.func37 c9037 (Nat.le_of_ble_eq_true rfl) fun σ hσ => ?_
  simp (disch := first | omega | (simp only [lenT]; omega)) only [a9037, h, decide_eq_true (show (0 : Int) < 40 by decide), evSt, ↓evPre, ↓evPreW, evPost, evPostW, evR, evU, seval]
theorem kind_S (p : V) (S : Store) : CallA Tryz.prog 164 [p] S fun r S' => r = .int .i64 2 ∧ S' = S := by
  refine CallA.keep Tryz.func164 c9164 (Nat.le_of_ble_eq_true rfl) fun σ hσ => ?_
  simp (disch := first | omega | (simp only [lenT]; omega)) only [a9164, evSt, ↓evPre, ↓evPreW, evPost, evPostW, evR, evU, seval]
theorem kind_R (p : V) (S : Store) : CallA Tryz.prog 165 [p] S fun r S' => r = .int .i64 1 ∧ S' = S := by
  refine CallA.keep Tryz.func165 c9165 (Nat.le_of_ble_eq_true rfl) fun σ hσ => ?_
  simp (disch := first | omega | (simp only [lenT]; omega)) only [a9165, evSt, ↓evPre, ↓evPreW, evPost, evPostW, evR, evU, seval]
theorem raw_call {f : FuncId} {vs : List V} {S : Store} {r0 : V} {ρ : AL.Place} {W : World} {us : Array Value} (h : CallA Tryz.prog f vs S fun r S' => r = r0 ∧ S' = S) (hi : AL.Inv ρ S W) (hv : VRs ρ S W vs us) :
    Calls Tryz.prog f us W fun e W' => ∃ u ρ', e = .returned u ∧ VR ρ' S W' false r0 u ∧ AL.Inv ρ' S W' ∧ Ext ρ S W ρ' S W' := by
  refine (h.2 ρ W us hi hv).mono ?_
  rintro e W' ⟨ρ', S', r, u, rfl, hr, hi', hx, rfl, rfl⟩
  exact ⟨u, ρ', rfl, hr, hi', hx⟩
theorem one_arg {ρ : AL.Place} {S : Store} {w : World} {v : V} {u : Value} (h : VR ρ S w false v u) : VRs ρ S w [v] #[u] :=
  ⟨rfl, fun i x hx => match i, hx with
    | 0, hx => by cases hx; exact ⟨u, rfl, h⟩⟩
theorem alloc_lt {W : World} {o : Go.Obj} : W.heap.size < (W.alloc o).heap.size := by
  show W.heap.size < (W.heap.push o).size
  simp
theorem alloc_at {W : World} {o : Go.Obj} : (W.alloc o).heap[W.heap.size]? = some o := by
  show (W.heap.push o)[W.heap.size]? = _
  simp
open Go.RowKit
set_option maxRecDepth 100000 in
set_option maxHeartbeats 2000000 in
theorem takes_rawR (ρ : AL.Place) (S : Store) (W : World) (q : Nat) (bv : V) (u k s a b : Value) (hi : AL.Inv ρ S W) (hu : VR ρ S W false (.ptr q 0 0 0) u) (h : S.obj? q 0 = some (81, 2, [[bv, .bool true]])) :
    Calls Tryz.prog 69 #[.iface 35 u, .agg #[.int .i64 1, s, a, b]] W fun e W' => ∃ ρ', e = .returned (.int .i64 0) ∧ AL.Inv ρ' S W' ∧ Ext ρ S W ρ' S W' := by
  have hm1 : ∀ w : World, (method 331 35 u "airline/link.ready").run Tryz.prog w = .ok (166, u) w := fun _ => by kernel_rfl
  have hm2 : ∀ w : World, (method 331 35 u "airline/link.kind").run Tryz.prog w = .ok (165, u) w := fun _ => by kernel_rfl
  go_enter Tryz.func69, Tryz.ntmps69
  have hb1 : ∀ o : Go.Obj, Below W.heap.size W (W.alloc o) := fun o => (Below.refl _ W).alloc (Nat.le_refl _) o
  have c1 : ∀ o : Go.Obj, Calls Tryz.prog 166 #[u] (W.alloc o) fun e W' => ∃ r ρ', e = .returned r ∧ VR ρ' S W' false (.bool true) r ∧ AL.Inv ρ' S W' ∧ Ext ρ S (W.alloc o) ρ' S W' := fun o =>
    raw_call (ready_R q bv S h) (inv_below hi (hb1 o)) (one_arg (hu.ext (ext_below (hb1 o))))
  go_wp2_with (go_at_call 166; refine (c1 _).mono ?_; rintro e W1 ⟨r, ρ1, rfl, hr1, hi1, hx1⟩; cases hr1)
  obtain ⟨hun, hbk⟩ := hx1.un W.heap.size ⟨alloc_lt, fun id o c g tot ho hst hr => by have := hi.block ho hst hr; omega⟩
  have hb : W1.heap[W.heap.size]? = some (.cells #[.int .i64 1, s, a, b] 43 (0, 0)) := hbk.trans alloc_at
  have hbd : Below W1.heap.size W1 (World.drew W1) := (Below.refl _ W1).drew
  have hid := inv_below hi1 hbd
  have hxd := ext_below (ρ := ρ1) (S := S) hbd
  have c2 : Calls Tryz.prog 165 #[u] (World.drew W1) fun e W' => ∃ r ρ', e = .returned r ∧ VR ρ' S W' false (.int .i64 1) r ∧ AL.Inv ρ' S W' ∧ Ext ρ1 S (World.drew W1) ρ' S W' :=
    raw_call (kind_R _ S) hid (one_arg ((hu.ext (ext_below (hb1 _))).ext hx1 |>.ext hxd))
  have hcell : ∀ {ρ' : AL.Place} {W' : World}, Ext ρ1 S (World.drew W1) ρ' S W' → W'.cell? ⟨W.heap.size, 0, none⟩ = some (.int .i64 1) := fun hx => by
    have := (hx.un W.heap.size ⟨hun.1, hun.2⟩).2
    unfold World.cell?
    rw [this, show (World.drew W1).heap[W.heap.size]? = _ from hb]
    rfl
  have hcd := hcell (ext_below (ρ := ρ1) (S := S) (Below.refl (World.drew W1).heap.size (World.drew W1)))
  go_region_with (go_at_call 165; refine c2.mono ?_; rintro e W2 ⟨r, ρ2, rfl, hr2, hi2, hx2⟩; cases hr2; have hc2 := hcell hx2)
  all_goals go_wp2
  all_goals go_ret
  all_goals exact ⟨ρ2, rfl, hi2, (((ext_below (hb1 _)).trans hx1).trans hxd).trans hx2⟩
set_option maxRecDepth 100000 in
set_option maxHeartbeats 2000000 in
theorem takes_rawS (ρ : AL.Place) (S : Store) (W : World) (q : Nat) (n m : Int) (kv : V) (u k s a b : Value) (hi : AL.Inv ρ S W) (hu : VR ρ S W false (.ptr q 0 0 0) u) (h : S.obj? q 0 = some (79, 4, [[.int .i64 40, .int .i64 n, .int .i64 m, kv]])) :
    Calls Tryz.prog 69 #[.iface 32 u, .agg #[.int .i64 2, s, a, b]] W fun e W' => ∃ ρ', e = .returned (.int .i64 0) ∧ AL.Inv ρ' S W' ∧ Ext ρ S W ρ' S W' := by
  have hm1 : ∀ w : World, (method 331 32 u "airline/link.ready").run Tryz.prog w = .ok (37, u) w := fun _ => by kernel_rfl
  have hm2 : ∀ w : World, (method 331 32 u "airline/link.kind").run Tryz.prog w = .ok (164, u) w := fun _ => by kernel_rfl
  go_enter Tryz.func69, Tryz.ntmps69
  have hb1 : ∀ o : Go.Obj, Below W.heap.size W (W.alloc o) := fun o => (Below.refl _ W).alloc (Nat.le_refl _) o
  have c1 : ∀ o : Go.Obj, Calls Tryz.prog 37 #[u] (W.alloc o) fun e W' => ∃ r ρ', e = .returned r ∧ VR ρ' S W' false (.bool true) r ∧ AL.Inv ρ' S W' ∧ Ext ρ S (W.alloc o) ρ' S W' := fun o =>
    raw_call (ready_S q n m kv S h) (inv_below hi (hb1 o)) (one_arg (hu.ext (ext_below (hb1 o))))
  go_wp2_with (go_at_call 37; refine (c1 _).mono ?_; rintro e W1 ⟨r, ρ1, rfl, hr1, hi1, hx1⟩; cases hr1)
  obtain ⟨hun, hbk⟩ := hx1.un W.heap.size ⟨alloc_lt, fun id o c g tot ho hst hr => by have := hi.block ho hst hr; omega⟩
  have hb : W1.heap[W.heap.size]? = some (.cells #[.int .i64 2, s, a, b] 43 (0, 0)) := hbk.trans alloc_at
  have hbd : Below W1.heap.size W1 (World.drew W1) := (Below.refl _ W1).drew
  have hid := inv_below hi1 hbd
  have hxd := ext_below (ρ := ρ1) (S := S) hbd
  have c2 : Calls Tryz.prog 164 #[u] (World.drew W1) fun e W' => ∃ r ρ', e = .returned r ∧ VR ρ' S W' false (.int .i64 2) r ∧ AL.Inv ρ' S W' ∧ Ext ρ1 S (World.drew W1) ρ' S W' :=
    raw_call (kind_S _ S) hid (one_arg ((hu.ext (ext_below (hb1 _))).ext hx1 |>.ext hxd))
  have hcell : ∀ {ρ' : AL.Place} {W' : World}, Ext ρ1 S (World.drew W1) ρ' S W' → W'.cell? ⟨W.heap.size, 0, none⟩ = some (.int .i64 2) := fun hx => by
    have := (hx.un W.heap.size ⟨hun.1, hun.2⟩).2
    unfold World.cell?
    rw [this, show (World.drew W1).heap[W.heap.size]? = _ from hb]
    rfl
  have hcd := hcell (ext_below (ρ := ρ1) (S := S) (Below.refl (World.drew W1).heap.size (World.drew W1)))
  go_region_with (go_at_call 164; refine c2.mono ?_; rintro e W2 ⟨r, ρ2, rfl, hr2, hi2, hx2⟩; cases hr2; have hc2 := hcell hx2)
  all_goals go_wp2
  all_goals go_ret
  all_goals exact ⟨ρ2, rfl, hi2, (((ext_below (hb1 _)).trans hx1).trans hxd).trans hx2⟩
theorem two_args {ρ : AL.Place} {S : Store} {w : World} {v0 v1 : V} {us : Array Value} (hv : VRs ρ S w [v0, v1] us) : ∃ u0 u1, us = #[u0, u1] ∧ VR ρ S w false v0 u0 ∧ VR ρ S w false v1 u1 := by
  obtain ⟨hl, hv⟩ := hv
  obtain ⟨u0, hu0, r0⟩ := hv 0 _ rfl
  obtain ⟨u1, hu1, r1⟩ := hv 1 _ rfl
  refine ⟨u0, u1, ?_, r0, r1⟩
  apply Array.ext
  · simpa using hl
  · intro k h1 h2
    have h2' : k < 2 := by simpa using h2
    match k, h2' with
    | 0, _ => rw [Array.getElem?_eq_getElem h1] at hu0; exact Option.some.inj hu0
    | 1, _ => rw [Array.getElem?_eq_getElem h1] at hu1; exact Option.some.inj hu1
theorem msg_cells {ρ : AL.Place} {S : Store} {w : World} {m : Int} {s a b : V} {u : Value} (hr : VR ρ S w false (.agg [.int .i64 m, s, a, b]) u) : ∃ x1 x2 x3, u = .agg #[.int .i64 m, x1, x2, x3] := by
  obtain ⟨us, rfl, hs, hc⟩ := hr.agg_inv
  obtain ⟨x0, k0, r0⟩ := hc 0 _ rfl
  obtain ⟨x1, k1, _⟩ := hc 1 _ rfl
  obtain ⟨x2, k2, _⟩ := hc 2 _ rfl
  obtain ⟨x3, k3, _⟩ := hc 3 _ rfl
  cases r0
  refine ⟨x1, x2, x3, ?_⟩
  congr 1
  apply Array.ext_getElem?
  intro i
  match i with
  | 0 => rw [k0]; rfl
  | 1 => rw [k1]; rfl
  | 2 => rw [k2]; rfl
  | 3 => rw [k3]; rfl
  | i + 4 => rw [Array.getElem?_eq_none_iff.2 (by simp at hs; omega), Array.getElem?_eq_none_iff.2 (by simp)]
theorem takes_R (q : Nat) (bv s a b : V) (S : Store) (h : S.obj? q 0 = some (81, 2, [[bv, .bool true]])) :
    CallA Tryz.prog 69 [.iface 35 (.ptr q 0 0 0), .agg [.int .i64 1, s, a, b]] S fun r S' => r = .int .i64 0 ∧ S' = S := by
  refine ⟨⟨_, Tryz.func69, by kernel_rfl, by kernel_rfl⟩, fun ρ w us hinv hv => ?_⟩
  obtain ⟨u0, u1, rfl, r0, r1⟩ := two_args hv
  obtain ⟨x1, x2, x3, rfl⟩ := msg_cells r1
  cases r0 with
  | iface hx =>
    refine (takes_rawR ρ S w q bv _ .nilIface x1 x2 x3 hinv hx h).mono ?_
    rintro e W' ⟨ρ', rfl, hi', hx'⟩
    exact ⟨ρ', S, .int .i64 0, _, rfl, .int, hi', hx', rfl, rfl⟩
theorem takes_S (p : Nat) (n m : Int) (kv s a b : V) (S : Store) (h : S.obj? p 0 = some (79, 4, [[.int .i64 40, .int .i64 n, .int .i64 m, kv]])) :
    CallA Tryz.prog 69 [.iface 32 (.ptr p 0 0 0), .agg [.int .i64 2, s, a, b]] S fun r S' => r = .int .i64 0 ∧ S' = S := by
  refine ⟨⟨_, Tryz.func69, by kernel_rfl, by kernel_rfl⟩, fun ρ w us hinv hv => ?_⟩
  obtain ⟨u0, u1, rfl, r0, r1⟩ := two_args hv
  obtain ⟨x1, x2, x3, rfl⟩ := msg_cells r1
  cases r0 with
  | iface hx =>
    refine (takes_rawS ρ S w p n m kv _ .nilIface x1 x2 x3 hinv hx h).mono ?_
    rintro e W' ⟨ρ', rfl, hi', hx'⟩
    exact ⟨ρ', S, .int .i64 0, _, rfl, .int, hi', hx', rfl, rfl⟩
end Go.Proofs.YtlnpfnoemhjheaaGreatDoor
