/- Arrays of two elements among what a law is given. -/
import Derived.Test.YtkdbghhdklfoiaaDoorRAlB
import Derived.OpenShut
import Derived.Stop.LaidErr
import Derived.Test.YtkdbghhdklfoiaaDoorRFc7
namespace Go.Proofs.YtkdbghhdklfoiaaDoor
open Go Go.AL Go.RowKit
set_option linter.unusedSectionVars false
variable [Go.AL.Mode] [Go.AL.LooseM]
set_option linter.unusedVariables false
set_option linter.unusedSimpArgs false
theorem trod_arr_mk {H : Type} {enc : TypeId × Value → H} {P : Program} {w : World} {base : Nat} {spare : Nat → Bool} {held : Bool} {t e : TypeId} {k n : Nat} {cs : List Value} {xs : List (DataW H × List MemPlace)} (ht : P.underlying t = some (.array k e)) (hl : cs.length = P.cellsOf t)
    (hp : (List.range k).mapM (fun i => DataW.trod enc P w base spare held n e ((cs.drop (i * P.cellsOf e)).take (P.cellsOf e))) = some xs) :
    DataW.trod enc P w base spare held (n + 1) t cs = some (.agg (xs.map (·.1)), xs.flatMap (·.2)) := by
  unfold DataW.trod
  rw [ht]
  split <;> simp_all
theorem opens_arr2 {P : Program} {t e : TypeId} {α : Type} {en : α → List V} {wf : α → Prop} (ht : P.underlying t = some (.array 2 e)) (hc : P.cellsOf t = P.cellsOf e + P.cellsOf e) (h : Opens P e en wf) : Opens P t (fun p : α × α => en p.1 ++ en p.2) (fun p => wf p.1 ∧ wf p.2) := by
  intro H en' W fuel cs x hx
  obtain ⟨xs, n, h1, rfl, hlen, hxl, hf⟩ := DataW.trod_array ht hx
  match xs, hxl with
  | [y0, y1], _ =>
    have g0 := hf 0 (by omega)
    have g1 := hf 1 (by omega)
    simp only [Nat.zero_mul, Nat.one_mul, List.drop_zero, List.getElem?_cons_zero, List.getElem?_cons_succ] at g0 g1
    obtain ⟨a, ha, hca, hba, hfa⟩ := h H en' W n _ y0 g0
    obtain ⟨b, hb, hcb, hbb, hfb⟩ := h H en' W n _ y1 g1
    have hcs : cs = cs.take (P.cellsOf e) ++ (cs.drop (P.cellsOf e)).take (P.cellsOf e) := by
      rw [List.take_of_length_le (l := cs.drop (P.cellsOf e)) (by rw [List.length_drop]; omega), List.take_append_drop]
    refine ⟨(a, b), ⟨ha, hb⟩, by rw [hcs]; exact hca.append hcb, by simp only [cellsBulk_append, Rows.uptoBulk, List.map_cons, List.map_nil, Rows.uptoBulkAll]; omega, fun W' sp hk hs => ?_⟩
    obtain ⟨n1, m1⟩ := hfa W' sp hk hs
    obtain ⟨n2, m2⟩ := hfb W' sp hk hs
    refine ⟨max n1 n2 + 1, trod_arr_mk ht hlen ?_⟩
    have q1 := DataW.trod_le (Nat.le_max_left n1 n2) m1
    have q2 := DataW.trod_le (Nat.le_max_right n1 n2) m2
    simp [List.range_succ, List.mapM_cons, q1, q2]
end Go.Proofs.YtkdbghhdklfoiaaDoor
/- How what the laws are given is read. -/
namespace Go.Proofs.YtkdbghhdklfoiaaDoor
open Go Go.AL
set_option linter.unusedSectionVars false
variable [Go.AL.Mode] [Go.AL.LooseM]
set_option linter.unusedSimpArgs false
set_option linter.unusedVariables false
def Cm.pdR (p : Cm.Pd) : List V := [.int .i64 p.f, .int .i64 p.t, .int .i64 p.d]
structure Tx where
  code : Txt
  kind : Int
  ctry : Txt
  am : Int
  scope : Int
  trans : Int
  free : List Txt
def taxR (x : Tx) : List V := [.str x.code, .int .i64 x.kind, .str x.ctry, .int .i64 x.am, .int .i64 x.scope, .int .i64 x.trans, .sl 1 (x.free.map txR)]
theorem txO : Opens Tryd.prog 9 txR (fun _ => True) := Opens.as (Opens.str (by kernel_rfl)) txR (fun _ => True) (fun p : Txt => p) (fun _ => rfl) (fun _ _ => trivial)
theorem inO : Opens Tryd.prog 3 Cm.inR (fun _ => True) := Opens.as (Opens.int (k := .i64) (by kernel_rfl)) Cm.inR (fun _ => True) (fun p : Int => p) (fun _ => rfl) (fun _ _ => trivial)
theorem txsO : Opens Tryd.prog 70 (fun l : List Txt => [.sl 1 (l.map txR)]) (fun _ => True) :=
  Opens.as (Opens.slice (q := 9) (sz := 1) (by kernel_rfl) (by kernel_rfl) (by omega) (fun _ => rfl) txO) (fun l : List Txt => [.sl 1 (l.map txR)]) (fun _ => True) (fun p => p) (fun _ => rfl) (fun _ _ => trivial)
theorem insO : Opens Tryd.prog 189 (fun l : List Int => [.sl 1 (l.map Cm.inR)]) (fun _ => True) :=
  Opens.as (Opens.slice (q := 3) (sz := 1) (by kernel_rfl) (by kernel_rfl) (by omega) (fun _ => rfl) inO) (fun l : List Int => [.sl 1 (l.map Cm.inR)]) (fun _ => True) (fun p => p) (fun _ => rfl) (fun _ _ => trivial)
theorem shO : Opens Tryd.prog 152 (Cm.shR) (fun _ => True) :=
  Opens.as (Opens.struct Tryd.underlying152 (by kernel_rfl) (OpensL.cons (Opens.int (k := .i64) (by kernel_rfl)) (OpensL.one (Opens.int (k := .i64) (by kernel_rfl))))) (Cm.shR) (fun _ => True) (fun p : Int × Int => (p : Int × Int)) (fun _ => rfl) (fun _ _ => trivial)
theorem shsO : Opens Tryd.prog 126 (fun l : List ((Int × Int)) => [.sl 2 (l.map Cm.shR)]) (fun _ => True) :=
  Opens.as (Opens.slice (q := 152) (sz := 2) (by kernel_rfl) (by kernel_rfl) (by omega) (fun _ => rfl) shO) (fun l : List ((Int × Int)) => [.sl 2 (l.map Cm.shR)]) (fun _ => True) (fun p => p) (fun _ => rfl) (fun _ _ => trivial)
theorem znO : Opens Tryd.prog 128 (fun z : Int × List (Int × Int) => [.int .i64 z.1, .sl 2 (z.2.map Cm.shR)]) (fun _ => True) :=
  Opens.as (Opens.struct Tryd.underlying128 (by kernel_rfl) (OpensL.cons (Opens.int (k := .i64) (by kernel_rfl)) (OpensL.one shsO))) (fun z : Int × List (Int × Int) => [.int .i64 z.1, .sl 2 (z.2.map Cm.shR)]) (fun _ => True) (fun p : Int × List (Int × Int) => (p : Int × List (Int × Int))) (fun _ => rfl) (fun _ _ => trivial)
theorem aptO : Opens Tryd.prog 130 (Cm.aptR) (fun _ => True) :=
  Opens.as (Opens.struct Tryd.underlying130 (by kernel_rfl) (OpensL.cons (Opens.str (by kernel_rfl)) (OpensL.cons (Opens.str (by kernel_rfl)) (OpensL.cons (Opens.str (by kernel_rfl)) (OpensL.one znO))))) (Cm.aptR) (fun _ => True) (fun p : Txt × Txt × Txt × Int × List (Int × Int) => (Cm.Apt.mk p.1 p.2.1 p.2.2.1 p.2.2.2.1 p.2.2.2.2 : Cm.Apt)) (fun _ => rfl) (fun _ _ => trivial)
theorem aptsO : Opens Tryd.prog 22 (fun l : List Cm.Apt => [.sl 5 (l.map Cm.aptR)]) (fun _ => True) :=
  Opens.as (Opens.slice (q := 130) (sz := 5) (by kernel_rfl) (by kernel_rfl) (by omega) (fun _ => rfl) aptO) (fun l : List Cm.Apt => [.sl 5 (l.map Cm.aptR)]) (fun _ => True) (fun p => p) (fun _ => rfl) (fun _ _ => trivial)
theorem dstO : Opens Tryd.prog 134 (Cm.dstR) (fun _ => True) :=
  Opens.as (Opens.struct Tryd.underlying134 (by kernel_rfl) (OpensL.cons (Opens.str (by kernel_rfl)) (OpensL.cons (Opens.str (by kernel_rfl)) (OpensL.one (Opens.int (k := .i64) (by kernel_rfl)))))) (Cm.dstR) (fun _ => True) (fun p : Txt × Txt × Int => (Cm.Dst.mk p.1 p.2.1 p.2.2 : Cm.Dst)) (fun _ => rfl) (fun _ _ => trivial)
theorem dstsO : Opens Tryd.prog 23 (fun l : List Cm.Dst => [.sl 3 (l.map Cm.dstR)]) (fun _ => True) :=
  Opens.as (Opens.slice (q := 134) (sz := 3) (by kernel_rfl) (by kernel_rfl) (by omega) (fun _ => rfl) dstO) (fun l : List Cm.Dst => [.sl 3 (l.map Cm.dstR)]) (fun _ => True) (fun p => p) (fun _ => rfl) (fun _ _ => trivial)
theorem plO : Opens Tryd.prog 25 (fun p : Cm.Pls => [.sl 5 (p.1.map Cm.aptR), .sl 3 (p.2.map Cm.dstR)]) (fun _ => True) :=
  Opens.as (Opens.struct Tryd.underlying25 (by kernel_rfl) (OpensL.cons aptsO (OpensL.one dstsO))) (fun p : Cm.Pls => [.sl 5 (p.1.map Cm.aptR), .sl 3 (p.2.map Cm.dstR)]) (fun _ => True) (fun p : List Cm.Apt × List Cm.Dst => (p : Cm.Pls)) (fun _ => rfl) (fun _ _ => trivial)
theorem pdO : Opens Tryd.prog 186 (Cm.pdR) (fun _ => True) :=
  Opens.as (Opens.struct Tryd.underlying186 (by kernel_rfl) (OpensL.cons (Opens.int (k := .i64) (by kernel_rfl)) (OpensL.cons (Opens.int (k := .i64) (by kernel_rfl)) (OpensL.one (Opens.int (k := .i64) (by kernel_rfl)))))) (Cm.pdR) (fun _ => True) (fun p : Int × Int × Int => (Cm.Pd.mk p.1 p.2.1 p.2.2 : Cm.Pd)) (fun _ => rfl) (fun _ _ => trivial)
theorem segO : Opens Tryd.prog 82 (Cm.sgR) (fun _ => True) :=
  Opens.as (Opens.struct Tryd.underlying82 (by kernel_rfl) (OpensL.cons (Opens.str (by kernel_rfl)) (OpensL.cons (Opens.int (k := .i64) (by kernel_rfl)) (OpensL.cons (Opens.int (k := .i64) (by kernel_rfl)) (OpensL.cons (Opens.str (by kernel_rfl)) (OpensL.cons (Opens.str (by kernel_rfl)) (OpensL.cons (Opens.int (k := .i64) (by kernel_rfl)) (OpensL.one (Opens.int (k := .i64) (by kernel_rfl)))))))))) (Cm.sgR) (fun _ => True) (fun p : Txt × Int × Int × Txt × Txt × Int × Int => (Cm.Sg.mk p.1 p.2.1 p.2.2.1 p.2.2.2.1 p.2.2.2.2.1 p.2.2.2.2.2.1 p.2.2.2.2.2.2 : Cm.Sg)) (fun _ => rfl) (fun _ _ => trivial)
theorem wntO : Opens Tryd.prog 84 (Cm.wntR) (fun _ => True) :=
  Opens.as (Opens.struct Tryd.underlying84 (by kernel_rfl) (OpensL.cons segO (OpensL.one (Opens.str (by kernel_rfl))))) (Cm.wntR) (fun _ => True) (fun p : Cm.Sg × Txt => (Cm.Wnt.mk p.1 p.2 : Cm.Wnt)) (fun _ => rfl) (fun _ _ => trivial)
theorem wntsO : Opens Tryd.prog 32 (fun l : List Cm.Wnt => [.sl 8 (l.map Cm.wntR)]) (fun _ => True) :=
  Opens.as (Opens.slice (q := 84) (sz := 8) (by kernel_rfl) (by kernel_rfl) (by omega) (fun _ => rfl) wntO) (fun l : List Cm.Wnt => [.sl 8 (l.map Cm.wntR)]) (fun _ => True) (fun p => p) (fun _ => rfl) (fun _ _ => trivial)
theorem frO : Opens Tryd.prog 80 (Cm.frR) (fun _ => True) :=
  Opens.as (Opens.struct Tryd.underlying80 (by kernel_rfl) (OpensL.cons (Opens.str (by kernel_rfl)) (OpensL.cons (Opens.str (by kernel_rfl)) (OpensL.cons (Opens.str (by kernel_rfl)) (OpensL.cons (Opens.str (by kernel_rfl)) (OpensL.cons (Opens.str (by kernel_rfl)) (OpensL.cons (Opens.bool (by kernel_rfl)) (OpensL.cons (Opens.int (k := .i64) (by kernel_rfl)) (OpensL.cons (Opens.int (k := .i64) (by kernel_rfl)) (OpensL.one (Opens.int (k := .i64) (by kernel_rfl)))))))))))) (Cm.frR) (fun _ => True) (fun p : Txt × Txt × Txt × Txt × Txt × Bool × Int × Int × Int => (Cm.Fr.mk p.1 p.2.1 p.2.2.1 p.2.2.2.1 p.2.2.2.2.1 p.2.2.2.2.2.1 p.2.2.2.2.2.2.1 p.2.2.2.2.2.2.2.1 p.2.2.2.2.2.2.2.2 : Cm.Fr)) (fun _ => rfl) (fun _ _ => trivial)
theorem frsO : Opens Tryd.prog 26 (fun l : List Cm.Fr => [.sl 9 (l.map Cm.frR)]) (fun _ => True) :=
  Opens.as (Opens.slice (q := 80) (sz := 9) (by kernel_rfl) (by kernel_rfl) (by omega) (fun _ => rfl) frO) (fun l : List Cm.Fr => [.sl 9 (l.map Cm.frR)]) (fun _ => True) (fun p => p) (fun _ => rfl) (fun _ _ => trivial)
theorem cndO : Opens Tryd.prog 188 Cm.Cnd.row (fun _ => True) := Opens.rec_ fun B ih => by
  have ihB : OpensB B Tryd.prog 184 (fun l : List Cm.Cnd => [.sl 8 (l.map Cm.Cnd.row)]) (fun l => ∀ a ∈ l, True) := (OpensB.slice (q := 188) (sz := 8) (by kernel_rfl) (by kernel_rfl) (by omega) (fun c => by cases c; rfl) ih).mono (Nat.le_succ _)
  exact OpensB.as (OpensB.struct Tryd.underlying188 (by kernel_rfl) (OpensLB.cons (Opens.toB (Opens.int (k := .i64) (by kernel_rfl)) B) (OpensLB.cons ihB (OpensLB.cons (Opens.toB (Opens.int (k := .i64) (by kernel_rfl)) B) (OpensLB.cons (Opens.toB (Opens.int (k := .i64) (by kernel_rfl)) B) (OpensLB.cons (Opens.toB pdO B) (OpensLB.one (Opens.toB txsO B)))))))) Cm.Cnd.row (fun _ => True) (fun p : Int × List Cm.Cnd × Int × Int × Cm.Pd × List Txt => Cm.Cnd.mk p.1 p.2.1 p.2.2.1 p.2.2.2.1 p.2.2.2.2.1 p.2.2.2.2.2) (fun p => by simp only [Cm.Cnd.row, Cm.Cnd.rows_eq, Cm.pdR, List.cons_append, List.nil_append]; rfl) (fun _ _ => trivial)
theorem perO : Opens Tryd.prog 200 (Cm.perR) (fun _ => True) :=
  Opens.as (Opens.struct Tryd.underlying200 (by kernel_rfl) (OpensL.cons (Opens.str (by kernel_rfl)) (OpensL.one (Opens.int (k := .i64) (by kernel_rfl))))) (Cm.perR) (fun _ => True) (fun p : Txt × Int => (p : Txt × Int)) (fun _ => rfl) (fun _ _ => trivial)
theorem persO : Opens Tryd.prog 190 (fun l : List ((Txt × Int)) => [.sl 2 (l.map Cm.perR)]) (fun _ => True) :=
  Opens.as (Opens.slice (q := 200) (sz := 2) (by kernel_rfl) (by kernel_rfl) (by omega) (fun _ => rfl) perO) (fun l : List ((Txt × Int)) => [.sl 2 (l.map Cm.perR)]) (fun _ => True) (fun p => p) (fun _ => rfl) (fun _ _ => trivial)
theorem rulO : Opens Tryd.prog 192 (Cm.rulR) (fun _ => True) :=
  Opens.as (Opens.struct Tryd.underlying192 (by kernel_rfl) (OpensL.cons (Opens.int (k := .i64) (by kernel_rfl)) (OpensL.cons cndO (OpensL.cons insO (OpensL.cons (Opens.int (k := .i64) (by kernel_rfl)) (OpensL.cons (Opens.int (k := .i64) (by kernel_rfl)) (OpensL.cons (Opens.int (k := .i64) (by kernel_rfl)) (OpensL.cons (Opens.int (k := .i64) (by kernel_rfl)) (OpensL.one persO))))))))) (Cm.rulR) (fun _ => True) (fun p : Int × Cm.Cnd × List Int × Int × Int × Int × Int × List (Txt × Int) => (Cm.Rul.mk p.1 p.2.1 p.2.2.1 p.2.2.2.1 p.2.2.2.2.1 p.2.2.2.2.2.1 p.2.2.2.2.2.2.1 p.2.2.2.2.2.2.2 : Cm.Rul)) (fun _ => rfl) (fun _ _ => trivial)
theorem rulR_len (r : Cm.Rul) : (Cm.rulR r).length = 15 := by
  obtain ⟨n, ⟨k, l, a, b, p, tx⟩, comb, mn, mx, ch, rf, per⟩ := r
  rfl
theorem rulsO : Opens Tryd.prog 27 (fun l : List Cm.Rul => [.sl 15 (l.map Cm.rulR)]) (fun _ => True) :=
  Opens.as (Opens.slice (q := 192) (sz := 15) (by kernel_rfl) (by kernel_rfl) (by omega) (rulR_len) rulO) (fun l : List Cm.Rul => [.sl 15 (l.map Cm.rulR)]) (fun _ => True) (fun p => p) (fun _ => rfl) (fun _ _ => trivial)
theorem lnkO : Opens Tryd.prog 202 (Cm.lnkR) (fun _ => True) :=
  Opens.as (Opens.struct Tryd.underlying202 (by kernel_rfl) (OpensL.cons (Opens.str (by kernel_rfl)) (OpensL.one (Opens.str (by kernel_rfl))))) (Cm.lnkR) (fun _ => True) (fun p : Txt × Txt => (p : Txt × Txt)) (fun _ => rfl) (fun _ _ => trivial)
theorem lnksO : Opens Tryd.prog 193 (fun l : List ((Txt × Txt)) => [.sl 2 (l.map Cm.lnkR)]) (fun _ => True) :=
  Opens.as (Opens.slice (q := 202) (sz := 2) (by kernel_rfl) (by kernel_rfl) (by omega) (fun _ => rfl) lnkO) (fun l : List ((Txt × Txt)) => [.sl 2 (l.map Cm.lnkR)]) (fun _ => True) (fun p => p) (fun _ => rfl) (fun _ _ => trivial)
theorem rouO : Opens Tryd.prog 195 (Cm.rouR) (fun _ => True) :=
  Opens.as (Opens.struct Tryd.underlying195 (by kernel_rfl) (OpensL.cons (Opens.int (k := .i64) (by kernel_rfl)) (OpensL.cons lnksO (OpensL.one (Opens.int (k := .i64) (by kernel_rfl)))))) (Cm.rouR) (fun _ => True) (fun p : Int × List (Txt × Txt) × Int => (Cm.Rou.mk p.1 p.2.1 p.2.2 : Cm.Rou)) (fun _ => rfl) (fun _ _ => trivial)
theorem rousO : Opens Tryd.prog 28 (fun l : List Cm.Rou => [.sl 3 (l.map Cm.rouR)]) (fun _ => True) :=
  Opens.as (Opens.slice (q := 195) (sz := 3) (by kernel_rfl) (by kernel_rfl) (by omega) (fun _ => rfl) rouO) (fun l : List Cm.Rou => [.sl 3 (l.map Cm.rouR)]) (fun _ => True) (fun p => p) (fun _ => rfl) (fun _ _ => trivial)
theorem taxO : Opens Tryd.prog 197 (taxR) (fun _ => True) :=
  Opens.as (Opens.struct Tryd.underlying197 (by kernel_rfl) (OpensL.cons (Opens.str (by kernel_rfl)) (OpensL.cons (Opens.int (k := .i64) (by kernel_rfl)) (OpensL.cons (Opens.str (by kernel_rfl)) (OpensL.cons (Opens.int (k := .i64) (by kernel_rfl)) (OpensL.cons (Opens.int (k := .i64) (by kernel_rfl)) (OpensL.cons (Opens.int (k := .i64) (by kernel_rfl)) (OpensL.one txsO)))))))) (taxR) (fun _ => True) (fun p : Txt × Int × Txt × Int × Int × Int × List Txt => (Tx.mk p.1 p.2.1 p.2.2.1 p.2.2.2.1 p.2.2.2.2.1 p.2.2.2.2.2.1 p.2.2.2.2.2.2 : Tx)) (fun _ => rfl) (fun _ _ => trivial)
theorem taxsO : Opens Tryd.prog 29 (fun l : List Tx => [.sl 7 (l.map taxR)]) (fun _ => True) :=
  Opens.as (Opens.slice (q := 197) (sz := 7) (by kernel_rfl) (by kernel_rfl) (by omega) (fun _ => rfl) taxO) (fun l : List Tx => [.sl 7 (l.map taxR)]) (fun _ => True) (fun p => p) (fun _ => rfl) (fun _ _ => trivial)
theorem tarO : Opens Tryd.prog 31 (fun t : Cm.Tar × List Tx => Cm.tarV t.1 (t.2.map taxR)) (fun _ => True) :=
  Opens.as (Opens.struct Tryd.underlying31 (by kernel_rfl) (OpensL.cons frsO (OpensL.cons rulsO (OpensL.cons rousO (OpensL.one taxsO))))) (fun t : Cm.Tar × List Tx => Cm.tarV t.1 (t.2.map taxR)) (fun _ => True) (fun p : List Cm.Fr × List Cm.Rul × List Cm.Rou × List Tx => ((Cm.Tar.mk p.1 p.2.1 p.2.2.1, p.2.2.2) : Cm.Tar × List Tx)) (fun _ => rfl) (fun _ _ => trivial)
theorem ptO : Opens Tryd.prog 69 (ptR) (fun _ => True) :=
  Opens.as (Opens.struct Tryd.underlying69 (by kernel_rfl) (OpensL.cons (Opens.int (k := .i64) (by kernel_rfl)) (OpensL.cons (Opens.int (k := .i64) (by kernel_rfl)) (OpensL.cons (Opens.int (k := .i64) (by kernel_rfl)) (OpensL.one (Opens.int (k := .i64) (by kernel_rfl))))))) (ptR) (fun _ => True) (fun p : Int × Int × Int × Int => (Pt.mk p.1 p.2.1 p.2.2.1 p.2.2.2 : Pt)) (fun _ => rfl) (fun _ _ => trivial)
theorem ptsO : Opens Tryd.prog 33 (fun l : List Pt => [.sl 4 (l.map ptR)]) (fun _ => True) :=
  Opens.as (Opens.slice (q := 69) (sz := 4) (by kernel_rfl) (by kernel_rfl) (by omega) (fun _ => rfl) ptO) (fun l : List Pt => [.sl 4 (l.map ptR)]) (fun _ => True) (fun p => p) (fun _ => rfl) (fun _ _ => trivial)
theorem prsO0 : Opens Tryd.prog 198 Cm.shR (fun _ => True) :=
  Opens.as (opens_arr2 (e := 3) (by kernel_rfl) (by kernel_rfl) (Opens.int (k := .i64) (by kernel_rfl))) Cm.shR (fun _ => True) (fun p : Int × Int => p) (fun _ => rfl) (fun _ _ => trivial)
theorem prsO : Opens Tryd.prog 34 (fun l : List ((Int × Int)) => [.sl 2 (l.map Cm.shR)]) (fun _ => True) :=
  Opens.as (Opens.slice (q := 198) (sz := 2) (by kernel_rfl) (by kernel_rfl) (by omega) (fun _ => rfl) prsO0) (fun l : List ((Int × Int)) => [.sl 2 (l.map Cm.shR)]) (fun _ => True) (fun p => p) (fun _ => rfl) (fun _ _ => trivial)
theorem chgO : Opens Tryd.prog 74 (chgR) (fun _ => True) :=
  Opens.as (Opens.struct Tryd.underlying74 (by kernel_rfl) (OpensL.cons (Opens.str (by kernel_rfl)) (OpensL.one (Opens.int (k := .i64) (by kernel_rfl))))) (chgR) (fun _ => True) (fun p : Txt × Int => (Chg.mk p.1 p.2 : Chg)) (fun _ => rfl) (fun _ _ => trivial)
theorem chgsO : Opens Tryd.prog 35 (fun l : List Chg => [.sl 2 (l.map chgR)]) (fun _ => True) :=
  Opens.as (Opens.slice (q := 74) (sz := 2) (by kernel_rfl) (by kernel_rfl) (by omega) (fun _ => rfl) chgO) (fun l : List Chg => [.sl 2 (l.map chgR)]) (fun _ => True) (fun p => p) (fun _ => rfl) (fun _ _ => trivial)
theorem qtO : Opens Tryd.prog 37 (qtR) (fun _ => True) :=
  Opens.as (Opens.struct Tryd.underlying37 (by kernel_rfl) (OpensL.cons ptsO (OpensL.cons prsO (OpensL.cons chgsO (OpensL.cons (Opens.int (k := .i64) (by kernel_rfl)) (OpensL.one (Opens.int (k := .i64) (by kernel_rfl)))))))) (qtR) (fun _ => True) (fun p : List Pt × List (Int × Int) × List Chg × Int × Int => (Qt.mk p.1 p.2.1 p.2.2.1 p.2.2.2.1 p.2.2.2.2 : Qt)) (fun _ => rfl) (fun _ _ => trivial)
structure Pri where
  p : Cm.Pls
  t : Cm.Tar
  tx : List Tx
  l : List Cm.Wnt
  q : Qt
def priR (c : Pri) : List V := prR c.p c.t (c.tx.map taxR) c.l c.q
theorem priO : Opens Tryd.prog 39 (priR) (fun _ => True) :=
  Opens.as (Opens.struct Tryd.underlying39 (by kernel_rfl) (OpensL.cons plO (OpensL.cons tarO (OpensL.cons wntsO (OpensL.one qtO))))) (priR) (fun _ => True) (fun p : Cm.Pls × (Cm.Tar × List Tx) × List Cm.Wnt × Qt => (Pri.mk p.1 p.2.1.1 p.2.1.2 p.2.2.1 p.2.2.2 : Pri)) (fun _ => rfl) (fun _ _ => trivial)
end Go.Proofs.YtkdbghhdklfoiaaDoor
/- The reference's look at a fare calculation; law Prices. -/
namespace Go.Proofs.YtkdbghhdklfoiaaDoor
open Go Go.AL Go.RowKit
set_option linter.unusedSectionVars false
variable [Go.AL.Mode] [Go.AL.LooseM]
set_option linter.unusedSimpArgs false
set_option linter.unusedVariables false
def ritErr (x : Itm) : Int := if szB x = false then 4 else if nmB x = false then 5 else 0
theorem over_A (n : Int) (S : Store) : CallA Tryd.prog 29 [.int .i64 n] S fun r S' => r = .bool (!okB n) ∧ S' = S := by
  refine CallA.keep Tryd.func29 c10029 (Nat.le_of_ble_eq_true rfl) fun σ hσ => ?_
  unfold okB
  by_cases h1 : n < 0
  · rw [dF (show ¬ 0 ≤ n by omega)]
    simp (disch := first | omega | (simp only [lenT]; omega)) only [a10029, dT h1, Bool.false_and, Bool.not_false, evSt, ↓evPre, ↓evPreW, evPost, evPostW, evR, evU, seval]
  · rw [dT (show 0 ≤ n by omega)]
    by_cases h2 : 1099511627776 < n
    · rw [dF (show ¬ n ≤ 1099511627776 by omega)]
      simp (disch := first | omega | (simp only [lenT]; omega)) only [a10029, dF h1, dT h2, Bool.and_false, Bool.not_false, evSt, ↓evPre, ↓evPreW, evPost, evPostW, evR, evU, seval]
    · rw [dT (show n ≤ 1099511627776 by omega)]
      simp (disch := first | omega | (simp only [lenT]; omega)) only [a10029, dF h1, dF h2, Bool.and_self, Bool.not_true, evSt, ↓evPre, ↓evPreW, evPost, evPostW, evR, evU, seval]
set_option maxHeartbeats 2000000 in
theorem ritem_A (x : Itm) (hc : x.cs.length ≤ 1000000000) (hk : x.ks.length ≤ 1000000000) (S : Store) :
    CallA Tryd.prog 28 [.agg (itmR x)] S fun r S' => r = .int .i64 (ritErr x) ∧ S' = S := by
  refine CallA.keep Tryd.func28 c10028 (Nat.le_of_ble_eq_true rfl) fun σ hσ => ?_
  have ca := fun s S => rairportT_A s S
  have cc := fun s S => rcarrierT_A s S
  have cd := fun s S => rcodeT_A s 1 8 S
  unfold ritErr
  by_cases h1 : (x.ks.length : Int) < 1
  · rw [if_pos (by unfold szB; rw [dF (show ¬ 1 ≤ x.ks.length by omega)]; rfl)]
    simp (disch := first | omega | (simp only [lenT]; omega)) only [a10028, itmR, wrap_i64, dT h1, evSt, ↓evPre, ↓evPreW, evPost, evPostW, evR, evU, seval]
  by_cases h2 : 6 < (x.ks.length : Int)
  · rw [if_pos (by unfold szB; rw [dF (show ¬ x.ks.length ≤ 6 by omega)]; simp)]
    simp (disch := first | omega | (simp only [lenT]; omega)) only [a10028, itmR, wrap_i64, dF h1, dT h2, evSt, ↓evPre, ↓evPreW, evPost, evPostW, evR, evU, seval]
  by_cases h3 : (x.cs.length : Int) = (x.ks.length : Int) + 1
  case neg =>
    rw [if_pos (by unfold szB; rw [dF (show ¬ x.cs.length = x.ks.length + 1 by omega)]; simp)]
    simp (disch := first | omega | (simp only [lenT]; omega)) only [a10028, itmR, wrap_i64, dF h1, dF h2, dF h3, evSt, ↓evPre, ↓evPreW, evPost, evPostW, evR, evU, seval]
  have hz : szB x = true := by unfold szB; rw [dT (show 1 ≤ x.ks.length by omega), dT (show x.ks.length ≤ 6 by omega), dT (show x.cs.length = x.ks.length + 1 by omega)]; rfl
  rw [if_neg (by rw [hz]; simp)]
  simp (disch := first | omega | (simp only [lenT]; omega)) only [a10028, itmR, wrap_i64, h3, dF h1, dF h2, evSt, ↓evPre, ↓evPreW, evPost, evPostW, evR, evU, seval]
  refine (cd _ _).then ?_
  simp (disch := first | omega | (simp only [lenT]; omega)) only [evSt, ↓evPre, ↓evPreW, evPost, evPostW, evR, evU, seval]
  refine loopA (ι := Nat × Bool) (fun i => [(1, .cptr (itmR x)), (3, .bool i.2), (4, .int .i64 (i.1 : Nat))]) (fun _ => S) (fun i => i.1 ≤ x.cs.length ∧ i.2 = (codeF x.ba 1 8 && (x.cs.take i.1).all airF && (x.ks.take (i.1 - 1)).all carF)) (fun i => x.cs.length - i.1) (0, codeF x.ba 1 8) ⟨Nat.zero_le _, by simp⟩ ?_ rfl ?_
  · simp only [itmR, ↓evPre, ↓evPreW, evPost, evPostW, evR, evU, seval]
    try rfl
  rintro ⟨i, ok⟩ ⟨hi, hok⟩
  simp only at hi hok ⊢
  cases hcx : x.cs[i]? with
  | none =>
    have hge : x.cs.length ≤ i := List.getElem?_eq_none_iff.1 hcx
    have hlt : ¬ ((i : Int) < x.cs.length) := by omega
    rw [List.take_of_length_le hge, List.take_of_length_le (by omega)] at hok
    have hnm : nmB x = ok := by unfold nmB; exact hok.symm
    rw [hnm]
    rw [h3] at hlt
    cases ok <;> simp (disch := first | omega | (simp only [lenT]; omega)) only [h3, dF hlt, itmR, evSt, ↓evPre, ↓evPreW, evPost, evPostW, evR, evU, seval]
    all_goals rfl
  | some t =>
    have hlt' := (List.getElem?_eq_some_iff.1 hcx).1
    have hlt : ((i : Int) < x.cs.length) := by omega
    have hk1 : (i : Int) + 1 = ((i + 1 : Nat) : Int) := by omega
    have htk : (x.cs.take (i + 1)).all airF = ((x.cs.take i).all airF && airF t) := by rw [take_at hcx, List.all_append]; simp
    rw [h3] at hlt
    cases ok with
    | false =>
      simp (disch := first | omega | (simp only [lenT]; omega)) only [h3, dT hlt, itmR, wrap_i64, hk1, evSt, ↓evPre, ↓evPreW, evPost, evPostW, evR, evU, seval]
      refine ⟨(i + 1, false), ⟨by simp only; omega, ?_⟩, by simp only; omega, by first | rfl | exact ⟨rfl, rfl⟩ | exact ⟨rfl, rfl, rfl⟩⟩
      simp only
      rw [htk, Nat.add_sub_cancel]
      cases i with
      | zero => simp at hok ⊢; simp [hok]
      | succ j =>
        have hj2 : (x.ks.take (j + 1)).all carF = true → (x.ks.take j).all carF = true := fun h => by
          rw [List.all_eq_true] at *
          intro c hc
          exact h c (by rw [List.take_add_one]; exact List.mem_append_left _ hc)
        rw [Nat.add_sub_cancel] at hok
        symm
        rw [Bool.and_eq_false_iff, Bool.and_eq_false_iff] at *
        rw [eq_comm, Bool.and_eq_false_iff, Bool.and_eq_false_iff] at hok
        rcases hok with (h | h) | h
        · exact .inl (.inl h)
        · exact .inl (.inr (by rw [h]; rfl))
        · refine .inr ?_
          cases hq : (x.ks.take (j + 1)).all carF
          · rfl
          · rw [hj2 hq] at h; cases h
    | true =>
      have hok' : codeF x.ba 1 8 = true ∧ (x.cs.take i).all airF = true ∧ (x.ks.take (i - 1)).all carF = true := by
        rw [eq_comm, Bool.and_eq_true, Bool.and_eq_true] at hok
        exact ⟨hok.1.1, hok.1.2, hok.2⟩
      simp (disch := first | omega | (simp only [lenT]; omega)) only [h3, dT hlt, hcx, itmR, txR, evSt, ↓evPre, ↓evPreW, evPost, evPostW, evR, evU, seval]
      refine (ca _ _).then ?_
      cases hat : airF t with
      | false =>
        simp (disch := first | omega | (simp only [lenT]; omega)) only [wrap_i64, hk1, evSt, ↓evPre, ↓evPreW, evPost, evPostW, evR, evU, seval]
        refine ⟨(i + 1, false), ⟨by simp only; omega, ?_⟩, by simp only; omega, by first | rfl | exact ⟨rfl, rfl⟩ | exact ⟨rfl, rfl, rfl⟩⟩
        simp only
        rw [htk, hat]
        simp
      | true =>
        by_cases hi0 : (i : Int) = 0
        · have hi0' : i = 0 := by omega
          subst hi0'
          simp (disch := first | omega | (simp only [lenT]; omega)) only [wrap_i64, hk1, evSt, ↓evPre, ↓evPreW, evPost, evPostW, evR, evU, seval]
          refine ⟨(0 + 1, true), ⟨by simp only; omega, ?_⟩, by simp only; omega, by first | rfl | exact ⟨rfl, rfl⟩ | exact ⟨rfl, rfl, rfl⟩⟩
          simp only
          rw [htk, hat, hok'.1]
          simp
        · obtain ⟨d, hd⟩ : ∃ d, x.ks[i - 1]? = some d := ⟨_, List.getElem?_eq_getElem (by omega)⟩
          have hi1 : (i : Int) - 1 = ((i - 1 : Nat) : Int) := by omega
          have htk2 : (x.ks.take i).all carF = carF d := by
            have : i = (i - 1) + 1 := by omega
            rw [this, take_at hd, List.all_append, hok'.2.2]
            simp
          simp (disch := first | omega | (simp only [lenT]; omega)) only [dF hi0, wrap_i64, hi1, hd, txR, evSt, ↓evPre, ↓evPreW, evPost, evPostW, evR, evU, seval]
          refine (cc _ _).then ?_
          cases hcd : carF d <;> simp (disch := first | omega | (simp only [lenT]; omega)) only [wrap_i64, hk1, evSt, ↓evPre, ↓evPreW, evPost, evPostW, evR, evU, seval]
          all_goals
            refine ⟨(i + 1, carF d), ⟨by simp only; omega, ?_⟩, by simp only; omega, by rw [hcd]; first | rfl | exact ⟨rfl, rfl⟩ | exact ⟨rfl, rfl, rfl⟩⟩
            simp only
            rw [htk, hat, hok'.1, hok'.2.1, Nat.add_sub_cancel, htk2]
            simp
set_option maxHeartbeats 4000000 in
theorem rchk_A (c : Cal) (hcl : ∀ x ∈ c.its, x.cs.length ≤ 1000000000 ∧ x.ks.length ≤ 1000000000) (l1 : c.its.length ≤ 1000000000) (l2 : c.txs.length ≤ 1000000000) (S : Store) :
    CallA Tryd.prog 13 [.agg (calR c)] S fun r S' => r = .int .i64 (chkF c) ∧ S' = S := by
  refine CallA.withNeat Tryd.func13 c10013 fun hn => ?_
  refine CallA.fin Tryd.func13 c10013 (Nat.le_of_ble_eq_true rfl) fun σ hσ => ?_
  have cd := fun s S => rcodeT_A s 1 8 S
  have cm := fun n S => over_A n S
  unfold chkF
  by_cases h1 : (c.its.length : Int) < 1
  · rw [if_pos (.inl (by omega))]
    simp (disch := first | omega | (simp only [lenT]; omega)) only [a10013, calR, dT h1, evSt, ↓evPre, ↓evPreW, evPost, evPostW, evR, evU, seval]
    exact ⟨_, S, hn.self, .imm rfl, Nat.le_refl _, rfl, rfl⟩
  by_cases h2 : 6 < (c.its.length : Int)
  · rw [if_pos (.inr (.inl (by omega)))]
    simp (disch := first | omega | (simp only [lenT]; omega)) only [a10013, calR, dF h1, dT h2, evSt, ↓evPre, ↓evPreW, evPost, evPostW, evR, evU, seval]
    exact ⟨_, S, hn.self, .imm rfl, Nat.le_refl _, rfl, rfl⟩
  by_cases h3 : 512 < (c.txs.length : Int)
  · rw [if_pos (.inr (.inr (by omega)))]
    simp (disch := first | omega | (simp only [lenT]; omega)) only [a10013, calR, dF h1, dF h2, dT h3, evSt, ↓evPre, ↓evPreW, evPost, evPostW, evR, evU, seval]
    exact ⟨_, S, hn.self, .imm rfl, Nat.le_refl _, rfl, rfl⟩
  rw [if_neg (by omega)]
  simp (disch := first | omega | (simp only [lenT]; omega)) only [a10013, calR, dF h1, dF h2, dF h3, evSt, ↓evPre, ↓evPreW, evPost, evPostW, evR, evU, seval]
  refine loopF (ι := Nat × Txt) (fun i => [(1, .cptr (calR c)), (3, .int .i64 (sumI (c.its.take i.1))), (4, .str i.2), (5, .int .i64 (i.1 : Nat))]) (fun _ => S)
    (fun i => i.1 ≤ c.its.length ∧ (∀ y ∈ c.its.take i.1, okB y.am = true) ∧ (i.1 = 0 ∨ lastOf (c.its.take i.1) = some i.2) ∧ itsErr none c.its = itsErr (lastOf (c.its.take i.1)) (c.its.drop i.1)) (fun i => c.its.length - i.1) (fun i hi => by rw [hσ]; exact Nat.le_refl _) (0, []) ⟨Nat.zero_le _, fun y hy => by simp at hy, .inl rfl, rfl⟩ (.inl ⟨?_, rfl⟩) ?_
  · simp only [calR, sumI, List.map_nil, List.sum_nil, ↓evPre, ↓evPreW, evPost, evPostW, evR, evU, seval]
    try rfl
  rintro ⟨k, lst⟩ ⟨hk, hg, hlast, he⟩
  simp only at hk hg hlast he ⊢
  cases hcx : c.its[k]? with
  | some x =>
    have hlt' := (List.getElem?_eq_some_iff.1 hcx).1
    have hlt : ((k : Int) < c.its.length) := by omega
    have hk1 : (k : Int) + 1 = ((k + 1 : Nat) : Int) := by omega
    have hxl := hcl x (List.mem_of_getElem? hcx)
    have ck := fun S => ritem_A x hxl.1 hxl.2 S
    simp only [itmR] at ck
    rw [drop_at hcx, itsErr] at he
    simp (disch := first | omega | (simp only [lenT]; omega)) only [dT hlt, hcx, itmR, calR, evSt, ↓evPre, ↓evPreW, evPost, evPostW, evR, evU, seval]
    refine (ck _).then ?_
    unfold ritErr
    cases hs : szB x with
    | false =>
      have hz : itmErr (lastOf (c.its.take k)) x = 4 := by unfold itmErr; rw [if_pos hs]
      rw [hz, if_neg (by decide)] at he
      simp (disch := first | omega | (simp only [lenT]; omega)) only [if_true, dF (show ¬ (4 : Int) = 0 by decide), evSt, ↓evPre, ↓evPreW, evPost, evPostW, evR, evU, seval]
      exact ⟨_, S, hn.fgt _, .imm rfl, Nat.le_refl _, by rw [he]; rfl, rfl⟩
    | true =>
    cases hm : nmB x with
    | false =>
      have hz : itmErr (lastOf (c.its.take k)) x = 5 := by unfold itmErr; rw [if_neg (by rw [hs]; simp), if_pos hm]
      rw [hz, if_neg (by decide)] at he
      simp (disch := first | omega | (simp only [lenT]; omega)) only [if_true, Bool.true_eq_false, if_false, dF (show ¬ (5 : Int) = 0 by decide), evSt, ↓evPre, ↓evPreW, evPost, evPostW, evR, evU, seval]
      exact ⟨_, S, hn.fgt _, .imm rfl, Nat.le_refl _, by rw [he]; rfl, rfl⟩
    | true =>
    have hsz := sz_inv hs
    obtain ⟨t0, ht0⟩ : ∃ t0, x.cs[0]? = some t0 := ⟨_, List.getElem?_eq_getElem (by omega)⟩
    obtain ⟨t1, ht1⟩ : ∃ t1, x.cs[x.cs.length - 1]? = some t1 := ⟨_, List.getElem?_eq_getElem (by omega)⟩
    have hhd : x.cs.head? = some t0 := by rw [List.head?_eq_getElem?]; exact ht0
    have hln : x.cs.getLast? = some t1 := by rw [List.getLast?_eq_getElem?]; exact ht1
    have hn1 : (x.cs.length : Int) - 1 = ((x.cs.length - 1 : Nat) : Int) := by omega
    have hi0 : itmErr (lastOf (c.its.take k)) x = if lgB (lastOf (c.its.take k)) x = false then 15 else if okB x.am = false then 11 else 0 := by
      unfold itmErr
      rw [if_neg (by rw [hs]; simp), if_neg (by rw [hm]; simp)]
    have hb1 := sumI_bd _ hg
    rw [List.length_take] at hb1
    have hs1 : IntKind.i64.wrap (sumI (c.its.take k) + x.am) = sumI (c.its.take (k + 1)) ∨ okB x.am = false := by
      cases hm2 : okB x.am with
      | false => exact .inr rfl
      | true =>
        have hb2 := okB_iff.1 hm2
        exact .inl (by rw [wrap_i64 (by omega) (by omega), sumI_next hcx])
    have nxt : lgB (lastOf (c.its.take k)) x = true → okB x.am = true → ((k + 1 ≤ c.its.length) ∧ (∀ y ∈ c.its.take (k + 1), okB y.am = true) ∧ (k + 1 = 0 ∨ lastOf (c.its.take (k + 1)) = some t1) ∧ itsErr none c.its = itsErr (lastOf (c.its.take (k + 1))) (c.its.drop (k + 1))) := fun g1 g2 => by
      rw [hi0, g1, g2] at he
      refine ⟨by omega, mem_next hg hcx g2, .inr (by rw [lastOf_next hcx, hln]), ?_⟩
      rw [lastOf_next hcx]
      exact he
    have bad11 : lgB (lastOf (c.its.take k)) x = true → okB x.am = false → itsErr none c.its = 11 := fun g1 g2 => by
      rw [hi0, g1, g2] at he
      exact he
    by_cases hk0 : (0 : Int) < k
    · have hlo : lastOf (c.its.take k) = some lst := by
        rcases hlast with h0 | h0
        · omega
        · exact h0
      by_cases ht : t0 = lst
      · have hlg : lgB (lastOf (c.its.take k)) x = true := by rw [hlo]; unfold lgB; exact dT (by rw [hhd, ht])
        subst ht
        simp (disch := first | omega | (simp only [lenT]; omega)) only [if_true, Bool.true_eq_false, if_false, dT hk0, ht0, txR, evSt, ↓evPre, ↓evPreW, evPost, evPostW, evR, evU, seval]
        refine (cm _ _).then ?_
        cases hm2 : okB x.am with
        | false =>
          simp (disch := first | omega | (simp only [lenT]; omega)) only [evSt, ↓evPre, ↓evPreW, evPost, evPostW, evR, evU, seval]
          exact ⟨_, S, hn.fgt _, .imm rfl, Nat.le_refl _, by rw [bad11 hlg hm2]; rfl, rfl⟩
        | true =>
          simp (disch := first | omega | (simp only [lenT]; omega)) only [wrap_i64, hn1, ht1, txR, evSt, ↓evPre, ↓evPreW, evPost, evPostW, evR, evU, seval]
          rw [hs1.resolve_right (by rw [hm2]; simp)]
          simp (disch := first | omega | (simp only [lenT]; omega)) only [wrap_i64, hk1, evSt, ↓evPre, ↓evPreW, evPost, evPostW, evR, evU, seval]
          exact ⟨(k + 1, t1), nxt hlg hm2, by simp only; omega, back_under (hn.fgt _) (by simp only [calR, ↓evPre, ↓evPreW, evPost, evPostW, evR, evU, seval]; try rfl) (by simp [V.under, V.allUnder])⟩
      · have hlg : lgB (lastOf (c.its.take k)) x = false := by rw [hlo]; unfold lgB; exact dF (by rw [hhd]; intro h; exact ht (Option.some.inj h))
        have he15 : itsErr none c.its = 15 := by rw [hi0, hlg] at he; exact he
        simp (disch := first | omega | (simp only [lenT]; omega)) only [if_true, Bool.true_eq_false, if_false, dT hk0, dF ht, ht0, txR, evSt, ↓evPre, ↓evPreW, evPost, evPostW, evR, evU, seval]
        first
          | exact ⟨_, S, hn.fgt _, .imm rfl, Nat.le_refl _, by rw [he15]; rfl, rfl⟩
          | (refine ⟨fun _ => ⟨_, S, hn.fgt _, .imm rfl, Nat.le_refl _, by rw [he15]; rfl, rfl⟩, fun h => absurd ht h⟩)
          | exact fun _ => ⟨_, S, hn.fgt _, .imm rfl, Nat.le_refl _, by rw [he15]; rfl, rfl⟩
    · have hlg : lgB (lastOf (c.its.take k)) x = true := by
        have : k = 0 := by omega
        subst this
        rfl
      simp (disch := first | omega | (simp only [lenT]; omega)) only [if_true, Bool.true_eq_false, if_false, dF hk0, ht0, txR, evSt, ↓evPre, ↓evPreW, evPost, evPostW, evR, evU, seval]
      refine (cm _ _).then ?_
      cases hm2 : okB x.am with
      | false =>
        simp (disch := first | omega | (simp only [lenT]; omega)) only [evSt, ↓evPre, ↓evPreW, evPost, evPostW, evR, evU, seval]
        exact ⟨_, S, hn.fgt _, .imm rfl, Nat.le_refl _, by rw [bad11 hlg hm2]; rfl, rfl⟩
      | true =>
        simp (disch := first | omega | (simp only [lenT]; omega)) only [wrap_i64, hn1, ht1, txR, evSt, ↓evPre, ↓evPreW, evPost, evPostW, evR, evU, seval]
        rw [hs1.resolve_right (by rw [hm2]; simp)]
        simp (disch := first | omega | (simp only [lenT]; omega)) only [wrap_i64, hk1, evSt, ↓evPre, ↓evPreW, evPost, evPostW, evR, evU, seval]
        exact ⟨(k + 1, t1), nxt hlg hm2, by simp only; omega, back_under (hn.fgt _) (by simp only [calR, ↓evPre, ↓evPreW, evPost, evPostW, evR, evU, seval]; try rfl) (by simp [V.under, V.allUnder])⟩
  | none =>
    have hge : c.its.length ≤ k := List.getElem?_eq_none_iff.1 hcx
    have hlt : ¬ ((k : Int) < c.its.length) := by omega
    rw [List.take_of_length_le hge, List.drop_of_length_le hge] at he
    rw [List.take_of_length_le hge] at hg ⊢
    rw [if_pos (show itsErr none c.its = 0 from he)]
    clear hcx hge hk he hlast
    simp (disch := first | omega | (simp only [lenT]; omega)) only [dF hlt, calR, evSt, ↓evPre, ↓evPreW, evPost, evPostW, evR, evU, seval]
    refine loopF (ι := Nat) (fun k => [(1, .cptr (calR c)), (3, .int .i64 (sumI c.its)), (8, .int .i64 (sumI c.its + sumT (c.txs.take k))), (9, .int .i64 (k : Nat))]) (fun _ => S) (fun k => k ≤ c.txs.length ∧ (∀ y ∈ c.txs.take k, okB y.am = true) ∧ txsErr c.txs = txsErr (c.txs.drop k)) (fun k => c.txs.length - k) (fun i hi => by rw [hσ]; exact Nat.le_refl _) 0 ⟨Nat.zero_le _, fun y hy => by simp at hy, rfl⟩ (.inl ⟨?_, rfl⟩) ?_
    · simp only [calR, sumT, List.map_nil, List.sum_nil, Int.add_zero, ↓evPre, ↓evPreW, evPost, evPostW, evR, evU, seval]
      try rfl
    clear hlt k
    have hb0 := sumI_bd _ hg
    rintro k ⟨hk, hg2, he⟩
    cases hcx : c.txs[k]? with
    | some x =>
      have hlt' := (List.getElem?_eq_some_iff.1 hcx).1
      have hlt : ((k : Int) < c.txs.length) := by omega
      have hk1 : (k : Int) + 1 = ((k + 1 : Nat) : Int) := by omega
      rw [drop_at hcx, txsErr] at he
      simp (disch := first | omega | (simp only [lenT]; omega)) only [dT hlt, hcx, chgR, calR, evSt, ↓evPre, ↓evPreW, evPost, evPostW, evR, evU, seval]
      refine (cd _ _).then ?_
      cases hco : codeF x.co 1 8 with
      | false =>
        have hz : txErr x = 5 := by unfold txErr; rw [hco]; rfl
        rw [hz, if_neg (by decide)] at he
        simp (disch := first | omega | (simp only [lenT]; omega)) only [evSt, ↓evPre, ↓evPreW, evPost, evPostW, evR, evU, seval]
        exact ⟨_, S, hn.self, .imm rfl, Nat.le_refl _, by rw [he, if_neg (by decide)], rfl⟩
      | true =>
        simp (disch := first | omega | (simp only [lenT]; omega)) only [hcx, chgR, evSt, ↓evPre, ↓evPreW, evPost, evPostW, evR, evU, seval]
        refine (cm _ _).then ?_
        cases hok : okB x.am with
        | false =>
          have hz : txErr x = 11 := by unfold txErr; rw [hco, hok]; rfl
          rw [hz, if_neg (by decide)] at he
          simp (disch := first | omega | (simp only [lenT]; omega)) only [evSt, ↓evPre, ↓evPreW, evPost, evPostW, evR, evU, seval]
          exact ⟨_, S, hn.self, .imm rfl, Nat.le_refl _, by rw [he, if_neg (by decide)], rfl⟩
        | true =>
          have hz : txErr x = 0 := by unfold txErr; rw [hco, hok]; rfl
          rw [if_pos hz] at he
          have hb1 := sumT_bd _ hg2
          have hb2 := okB_iff.1 hok
          rw [List.length_take] at hb1
          have hs : IntKind.i64.wrap (sumI c.its + sumT (c.txs.take k) + x.am) = sumI c.its + sumT (c.txs.take (k + 1)) := by rw [wrap_i64 (by omega) (by omega), sumT_next hcx]; omega
          simp (disch := first | omega | (simp only [lenT]; omega)) only [hcx, chgR, evSt, ↓evPre, ↓evPreW, evPost, evPostW, evR, evU, seval]
          rw [hs]
          simp (disch := first | omega | (simp only [lenT]; omega)) only [wrap_i64, hk1, evSt, ↓evPre, ↓evPreW, evPost, evPostW, evR, evU, seval]
          exact ⟨k + 1, ⟨by omega, mem_next hg2 hcx hok, he⟩, by omega, .inl ⟨by simp only [calR, ↓evPre, ↓evPreW, evPost, evPostW, evR, evU, seval]; try rfl, rfl⟩⟩
    | none =>
      have hge : c.txs.length ≤ k := List.getElem?_eq_none_iff.1 hcx
      have hlt : ¬ ((k : Int) < c.txs.length) := by omega
      rw [List.take_of_length_le hge] at hg2 ⊢
      rw [List.drop_of_length_le hge] at he
      rw [if_pos (show txsErr c.txs = 0 from he)]
      unfold smErr
      simp (disch := first | omega | (simp only [lenT]; omega)) only [dF hlt, calR, evSt, ↓evPre, ↓evPreW, evPost, evPostW, evR, evU, seval]
      refine (cm _ _).then ?_
      cases hf : okB c.fare with
      | false =>
        simp (disch := first | omega | (simp only [lenT]; omega)) only [true_or, if_true, evSt, ↓evPre, ↓evPreW, evPost, evPostW, evR, evU, seval]
        exact ⟨_, S, hn.self, .imm rfl, Nat.le_refl _, rfl, rfl⟩
      | true =>
      simp (disch := first | omega | (simp only [lenT]; omega)) only [evSt, ↓evPre, ↓evPreW, evPost, evPostW, evR, evU, seval]
      refine (cm _ _).then ?_
      cases ht : okB c.tot with
      | false =>
        simp (disch := first | omega | (simp only [lenT]; omega)) only [or_true, if_true, evSt, ↓evPre, ↓evPreW, evPost, evPostW, evR, evU, seval]
        exact ⟨_, S, hn.self, .imm rfl, Nat.le_refl _, rfl, rfl⟩
      | true =>
      rw [if_neg (by simp)]
      by_cases e1 : c.fare = sumI c.its
      · have e2 : (sumI c.its ≠ c.fare ∨ c.fare + sumT c.txs ≠ c.tot) ↔ ¬ c.tot = sumI c.its + sumT c.txs := by
          constructor
          · rintro (h | h)
            · exact absurd e1.symm h
            · intro h2; rw [e1] at h; exact h h2.symm
          · intro h; exact .inr fun h2 => h (by rw [← h2, e1])
        by_cases e3 : c.tot = sumI c.its + sumT c.txs
        · rw [if_neg (fun h => e2.1 h e3)]
          simp (disch := first | omega | (simp only [lenT]; omega)) only [dT e1, dT e3, evSt, ↓evPre, ↓evPreW, evPost, evPostW, evR, evU, seval]
          exact ⟨_, S, hn.self, .imm rfl, Nat.le_refl _, rfl, rfl⟩
        · rw [if_pos (e2.2 e3)]
          simp (disch := first | omega | (simp only [lenT]; omega)) only [dT e1, dF e3, evSt, ↓evPre, ↓evPreW, evPost, evPostW, evR, evU, seval]
          exact ⟨_, S, hn.self, .imm rfl, Nat.le_refl _, rfl, rfl⟩
      · rw [if_pos (.inl fun h => e1 h.symm)]
        simp (disch := first | omega | (simp only [lenT]; omega)) only [dF e1, evSt, ↓evPre, ↓evPreW, evPost, evPostW, evR, evU, seval]
        exact ⟨_, S, hn.self, .imm rfl, Nat.le_refl _, rfl, rfl⟩
set_option maxHeartbeats 2000000 in
theorem law_prices (p : Cm.Pls) (t : Cm.Tar) (tx : List (List V)) (l : List Cm.Wnt) (q : Qt) (S : Store) : CallA Tryd.prog 4 [.agg (prR p t tx l q)] S fun r S' => r = .bool true ∧ S' = S := by
  refine CallA.withNeat Tryd.func4 c10004 fun hn => ?_
  refine CallA.fin Tryd.func4 c10004 (Nat.le_of_ble_eq_true rfl) fun σ hσ => ?_
  have rt := fun S => right_A p t tx l q S
  have aw := awake_A
  simp only [prR] at rt
  simp (disch := first | omega | (simp only [lenT]; omega)) only [a10004, prR, evSt, ↓evPre, ↓evPreW, evPost, evPostW, evR, evU, seval]
  refine (rt _).mono ?_
  rintro r S2 ⟨b, rfl, hb, hS2⟩
  rw [hS2]
  clear hS2 S2
  cases b with
  | false =>
    simp (disch := first | omega | (simp only [lenT]; omega)) only [evSt, ↓evPre, ↓evPreW, evPost, evPostW, evR, evU, seval]
    refine (aw _).then ?_
    simp (disch := first | omega | (simp only [lenT]; omega)) only [evSt, ↓evPre, ↓evPreW, evPost, evPostW, evR, evU, seval]
    exact ⟨_, S, hn.self, .imm rfl, Nat.le_refl _, rfl, rfl⟩
  | true =>
    have h := hb rfl
    obtain ⟨l1, l2, l3⟩ := of_lens h
    have of1 := fun S => of_A p t tx l q h S
    have of2 := fun S => rof_A p t tx l q h S
    have fm := fun S => from_A (ofF p t l q) l1 S
    have sm := fun S => same_A (ofF p t l q) ⟨l1, l2⟩ l3 S
    have pr := fun S => print_A (ofF p t l q) l3 (by omega) (by omega) S
    have rc := fun S => rchk_A (ofF p t l q) l3 (by omega) (by omega) S
    have pa := fun (h : chkF (ofF p t l q) = 0) S => parseP_A h S
    have hpr : priF (ofF p t l q) = if chkF (ofF p t l q) = 0 then (lineF (prW (ofF p t l q)), 0) else ([], chkF (ofF p t l q)) := rfl
    simp only [Cm.plV, Cm.tarV, qtR] at of1 of2
    generalize ofF p t l q = c at *
    simp only [calR] at of1 of2 fm sm pr rc pa
    clear rt hb l1 l2 l3
    simp (disch := first | omega | (simp only [lenT]; omega)) only [evSt, ↓evPre, ↓evPreW, evPost, evPostW, evR, evU, seval]
    refine (of1 _).then ?_
    simp (disch := first | omega | (simp only [lenT]; omega)) only [evSt, ↓evPre, ↓evPreW, evPost, evPostW, evR, evU, seval]
    refine (pr _).then ?_
    rw [hpr]
    by_cases he : chkF c = 0
    · rw [if_pos he]
      have pa := pa he
      simp (disch := first | omega | (simp only [lenT]; omega)) only [evSt, ↓evPre, ↓evPreW, evPost, evPostW, evR, evU, seval]
      refine (pa _).then ?_
      simp (disch := first | omega | (simp only [lenT]; omega)) only [evSt, ↓evPre, ↓evPreW, evPost, evPostW, evR, evU, seval]
      refine exD.intro (fm _) ?_
      simp (disch := first | omega | (simp only [lenT]; omega)) only [evSt, ↓evPre, ↓evPreW, evPost, evPostW, evR, evU, seval]
      refine (of2 _).then ?_
      simp (disch := first | omega | (simp only [lenT]; omega)) only [evSt, ↓evPre, ↓evPreW, evPost, evPostW, evR, evU, seval]
      refine (sm _).then ?_
      simp (disch := first | omega | (simp only [lenT]; omega)) only [evSt, ↓evPre, ↓evPreW, evPost, evPostW, evR, evU, seval]
      refine (aw _).then ?_
      simp (disch := first | omega | (simp only [lenT]; omega)) only [evSt, ↓evPre, ↓evPreW, evPost, evPostW, evR, evU, seval]
      exact ⟨_, S, hn.fgt _, .imm rfl, Nat.le_refl _, rfl, rfl⟩
    · rw [if_neg he]
      simp (disch := first | omega | (simp only [lenT]; omega)) only [dF he, evSt, ↓evPre, ↓evPreW, evPost, evPostW, evR, evU, seval]
      refine (of2 _).then ?_
      simp (disch := first | omega | (simp only [lenT]; omega)) only [evSt, ↓evPre, ↓evPreW, evPost, evPostW, evR, evU, seval]
      refine (rc _).then ?_
      simp (disch := first | omega | (simp only [lenT]; omega)) only [eq_self, decide_true, evSt, ↓evPre, ↓evPreW, evPost, evPostW, evR, evU, seval]
      refine (aw _).then ?_
      simp (disch := first | omega | (simp only [lenT]; omega)) only [evSt, ↓evPre, ↓evPreW, evPost, evPostW, evR, evU, seval]
      exact ⟨_, S, hn.fgt _, .imm rfl, Nat.le_refl _, rfl, rfl⟩
end Go.Proofs.YtkdbghhdklfoiaaDoor
