/- Arrays of two elements among what a law is given. -/
import Derived.Test.YtkdbghhdklfoiaaDoorQAlB
import Derived.OpenShut
import Derived.Stop.LaidErr
import Derived.Test.YtkdbghhdklfoiaaDoorQFc7
namespace Go.Proofs.YtkdbghhdklfoiaaDoor
open Go Go.AL Go.RowKit
set_option linter.unusedSectionVars false
variable [Go.AL.Mode] [Go.AL.LooseM]
set_option linter.unusedVariables false
set_option linter.unusedSimpArgs false
theorem trod_arr_mk {H : Type} {enc : TypeId × Value → H} {P : Program} {w : World} {base : Nat} {spare : Nat → Bool} {held : Bool} {t e : TypeId} {k n : Nat} {cs : List Value} {xs : List (DataW H × List MemPlace)} (ht : P.underlying t = some (.array k e)) (hl : cs.length = P.cellsOf t)
    (hp : (List.range k).mapM (fun i => DataW.trod enc P w base spare held n e ((cs.drop (i * P.cellsOf e)).take (P.cellsOf e))) = some xs) :
    DataW.trod enc P w base spare held (n + 1) t cs = some (.agg (xs.map (·.1)), xs.flatMap (·.2)) := by
  unfold DataW.trod
  rw [ht]
  split <;> simp_all
theorem opens_arr2 {P : Program} {t e : TypeId} {α : Type} {en : α → List V} {wf : α → Prop} (ht : P.underlying t = some (.array 2 e)) (hc : P.cellsOf t = P.cellsOf e + P.cellsOf e) (h : Opens P e en wf) : Opens P t (fun p : α × α => en p.1 ++ en p.2) (fun p => wf p.1 ∧ wf p.2) := by
  intro H en' W fuel cs x hx
  obtain ⟨xs, n, h1, rfl, hlen, hxl, hf⟩ := DataW.trod_array ht hx
  match xs, hxl with
  | [y0, y1], _ =>
    have g0 := hf 0 (by omega)
    have g1 := hf 1 (by omega)
    simp only [Nat.zero_mul, Nat.one_mul, List.drop_zero, List.getElem?_cons_zero, List.getElem?_cons_succ] at g0 g1
    obtain ⟨a, ha, hca, hba, hfa⟩ := h H en' W n _ y0 g0
    obtain ⟨b, hb, hcb, hbb, hfb⟩ := h H en' W n _ y1 g1
    have hcs : cs = cs.take (P.cellsOf e) ++ (cs.drop (P.cellsOf e)).take (P.cellsOf e) := by
      rw [List.take_of_length_le (l := cs.drop (P.cellsOf e)) (by rw [List.length_drop]; omega), List.take_append_drop]
    refine ⟨(a, b), ⟨ha, hb⟩, by rw [hcs]; exact hca.append hcb, by simp only [cellsBulk_append, Rows.uptoBulk, List.map_cons, List.map_nil, Rows.uptoBulkAll]; omega, fun W' sp hk hs => ?_⟩
    obtain ⟨n1, m1⟩ := hfa W' sp hk hs
    obtain ⟨n2, m2⟩ := hfb W' sp hk hs
    refine ⟨max n1 n2 + 1, trod_arr_mk ht hlen ?_⟩
    have q1 := DataW.trod_le (Nat.le_max_left n1 n2) m1
    have q2 := DataW.trod_le (Nat.le_max_right n1 n2) m2
    simp [List.range_succ, List.mapM_cons, q1, q2]
end Go.Proofs.YtkdbghhdklfoiaaDoor
/- How what the laws are given is read. -/
namespace Go.Proofs.YtkdbghhdklfoiaaDoor
open Go Go.AL
set_option linter.unusedSectionVars false
variable [Go.AL.Mode] [Go.AL.LooseM]
set_option linter.unusedSimpArgs false
set_option linter.unusedVariables false
def Cm.pdR (p : Cm.Pd) : List V := [.int .i64 p.f, .int .i64 p.t, .int .i64 p.d]
structure Tx where
  code : Txt
  kind : Int
  ctry : Txt
  am : Int
  scope : Int
  trans : Int
  free : List Txt
def taxR (x : Tx) : List V := [.str x.code, .int .i64 x.kind, .str x.ctry, .int .i64 x.am, .int .i64 x.scope, .int .i64 x.trans, .sl 1 (x.free.map txR)]
theorem txO : Opens Tryd.prog 9 txR (fun _ => True) := Opens.as (Opens.str (by kernel_rfl)) txR (fun _ => True) (fun p : Txt => p) (fun _ => rfl) (fun _ _ => trivial)
theorem inO : Opens Tryd.prog 3 Cm.inR (fun _ => True) := Opens.as (Opens.int (k := .i64) (by kernel_rfl)) Cm.inR (fun _ => True) (fun p : Int => p) (fun _ => rfl) (fun _ _ => trivial)
theorem txsO : Opens Tryd.prog 70 (fun l : List Txt => [.sl 1 (l.map txR)]) (fun _ => True) :=
  Opens.as (Opens.slice (q := 9) (sz := 1) (by kernel_rfl) (by kernel_rfl) (by omega) (fun _ => rfl) txO) (fun l : List Txt => [.sl 1 (l.map txR)]) (fun _ => True) (fun p => p) (fun _ => rfl) (fun _ _ => trivial)
theorem insO : Opens Tryd.prog 189 (fun l : List Int => [.sl 1 (l.map Cm.inR)]) (fun _ => True) :=
  Opens.as (Opens.slice (q := 3) (sz := 1) (by kernel_rfl) (by kernel_rfl) (by omega) (fun _ => rfl) inO) (fun l : List Int => [.sl 1 (l.map Cm.inR)]) (fun _ => True) (fun p => p) (fun _ => rfl) (fun _ _ => trivial)
theorem shO : Opens Tryd.prog 152 (Cm.shR) (fun _ => True) :=
  Opens.as (Opens.struct Tryd.underlying152 (by kernel_rfl) (OpensL.cons (Opens.int (k := .i64) (by kernel_rfl)) (OpensL.one (Opens.int (k := .i64) (by kernel_rfl))))) (Cm.shR) (fun _ => True) (fun p : Int × Int => (p : Int × Int)) (fun _ => rfl) (fun _ _ => trivial)
theorem shsO : Opens Tryd.prog 126 (fun l : List ((Int × Int)) => [.sl 2 (l.map Cm.shR)]) (fun _ => True) :=
  Opens.as (Opens.slice (q := 152) (sz := 2) (by kernel_rfl) (by kernel_rfl) (by omega) (fun _ => rfl) shO) (fun l : List ((Int × Int)) => [.sl 2 (l.map Cm.shR)]) (fun _ => True) (fun p => p) (fun _ => rfl) (fun _ _ => trivial)
theorem znO : Opens Tryd.prog 128 (fun z : Int × List (Int × Int) => [.int .i64 z.1, .sl 2 (z.2.map Cm.shR)]) (fun _ => True) :=
  Opens.as (Opens.struct Tryd.underlying128 (by kernel_rfl) (OpensL.cons (Opens.int (k := .i64) (by kernel_rfl)) (OpensL.one shsO))) (fun z : Int × List (Int × Int) => [.int .i64 z.1, .sl 2 (z.2.map Cm.shR)]) (fun _ => True) (fun p : Int × List (Int × Int) => (p : Int × List (Int × Int))) (fun _ => rfl) (fun _ _ => trivial)
theorem aptO : Opens Tryd.prog 130 (Cm.aptR) (fun _ => True) :=
  Opens.as (Opens.struct Tryd.underlying130 (by kernel_rfl) (OpensL.cons (Opens.str (by kernel_rfl)) (OpensL.cons (Opens.str (by kernel_rfl)) (OpensL.cons (Opens.str (by kernel_rfl)) (OpensL.one znO))))) (Cm.aptR) (fun _ => True) (fun p : Txt × Txt × Txt × Int × List (Int × Int) => (Cm.Apt.mk p.1 p.2.1 p.2.2.1 p.2.2.2.1 p.2.2.2.2 : Cm.Apt)) (fun _ => rfl) (fun _ _ => trivial)
theorem aptsO : Opens Tryd.prog 22 (fun l : List Cm.Apt => [.sl 5 (l.map Cm.aptR)]) (fun _ => True) :=
  Opens.as (Opens.slice (q := 130) (sz := 5) (by kernel_rfl) (by kernel_rfl) (by omega) (fun _ => rfl) aptO) (fun l : List Cm.Apt => [.sl 5 (l.map Cm.aptR)]) (fun _ => True) (fun p => p) (fun _ => rfl) (fun _ _ => trivial)
theorem dstO : Opens Tryd.prog 134 (Cm.dstR) (fun _ => True) :=
  Opens.as (Opens.struct Tryd.underlying134 (by kernel_rfl) (OpensL.cons (Opens.str (by kernel_rfl)) (OpensL.cons (Opens.str (by kernel_rfl)) (OpensL.one (Opens.int (k := .i64) (by kernel_rfl)))))) (Cm.dstR) (fun _ => True) (fun p : Txt × Txt × Int => (Cm.Dst.mk p.1 p.2.1 p.2.2 : Cm.Dst)) (fun _ => rfl) (fun _ _ => trivial)
theorem dstsO : Opens Tryd.prog 23 (fun l : List Cm.Dst => [.sl 3 (l.map Cm.dstR)]) (fun _ => True) :=
  Opens.as (Opens.slice (q := 134) (sz := 3) (by kernel_rfl) (by kernel_rfl) (by omega) (fun _ => rfl) dstO) (fun l : List Cm.Dst => [.sl 3 (l.map Cm.dstR)]) (fun _ => True) (fun p => p) (fun _ => rfl) (fun _ _ => trivial)
theorem plO : Opens Tryd.prog 25 (fun p : Cm.Pls => [.sl 5 (p.1.map Cm.aptR), .sl 3 (p.2.map Cm.dstR)]) (fun _ => True) :=
  Opens.as (Opens.struct Tryd.underlying25 (by kernel_rfl) (OpensL.cons aptsO (OpensL.one dstsO))) (fun p : Cm.Pls => [.sl 5 (p.1.map Cm.aptR), .sl 3 (p.2.map Cm.dstR)]) (fun _ => True) (fun p : List Cm.Apt × List Cm.Dst => (p : Cm.Pls)) (fun _ => rfl) (fun _ _ => trivial)
theorem pdO : Opens Tryd.prog 186 (Cm.pdR) (fun _ => True) :=
  Opens.as (Opens.struct Tryd.underlying186 (by kernel_rfl) (OpensL.cons (Opens.int (k := .i64) (by kernel_rfl)) (OpensL.cons (Opens.int (k := .i64) (by kernel_rfl)) (OpensL.one (Opens.int (k := .i64) (by kernel_rfl)))))) (Cm.pdR) (fun _ => True) (fun p : Int × Int × Int => (Cm.Pd.mk p.1 p.2.1 p.2.2 : Cm.Pd)) (fun _ => rfl) (fun _ _ => trivial)
theorem segO : Opens Tryd.prog 82 (Cm.sgR) (fun _ => True) :=
  Opens.as (Opens.struct Tryd.underlying82 (by kernel_rfl) (OpensL.cons (Opens.str (by kernel_rfl)) (OpensL.cons (Opens.int (k := .i64) (by kernel_rfl)) (OpensL.cons (Opens.int (k := .i64) (by kernel_rfl)) (OpensL.cons (Opens.str (by kernel_rfl)) (OpensL.cons (Opens.str (by kernel_rfl)) (OpensL.cons (Opens.int (k := .i64) (by kernel_rfl)) (OpensL.one (Opens.int (k := .i64) (by kernel_rfl)))))))))) (Cm.sgR) (fun _ => True) (fun p : Txt × Int × Int × Txt × Txt × Int × Int => (Cm.Sg.mk p.1 p.2.1 p.2.2.1 p.2.2.2.1 p.2.2.2.2.1 p.2.2.2.2.2.1 p.2.2.2.2.2.2 : Cm.Sg)) (fun _ => rfl) (fun _ _ => trivial)
theorem wntO : Opens Tryd.prog 84 (Cm.wntR) (fun _ => True) :=
  Opens.as (Opens.struct Tryd.underlying84 (by kernel_rfl) (OpensL.cons segO (OpensL.one (Opens.str (by kernel_rfl))))) (Cm.wntR) (fun _ => True) (fun p : Cm.Sg × Txt => (Cm.Wnt.mk p.1 p.2 : Cm.Wnt)) (fun _ => rfl) (fun _ _ => trivial)
theorem wntsO : Opens Tryd.prog 32 (fun l : List Cm.Wnt => [.sl 8 (l.map Cm.wntR)]) (fun _ => True) :=
  Opens.as (Opens.slice (q := 84) (sz := 8) (by kernel_rfl) (by kernel_rfl) (by omega) (fun _ => rfl) wntO) (fun l : List Cm.Wnt => [.sl 8 (l.map Cm.wntR)]) (fun _ => True) (fun p => p) (fun _ => rfl) (fun _ _ => trivial)
theorem frO : Opens Tryd.prog 80 (Cm.frR) (fun _ => True) :=
  Opens.as (Opens.struct Tryd.underlying80 (by kernel_rfl) (OpensL.cons (Opens.str (by kernel_rfl)) (OpensL.cons (Opens.str (by kernel_rfl)) (OpensL.cons (Opens.str (by kernel_rfl)) (OpensL.cons (Opens.str (by kernel_rfl)) (OpensL.cons (Opens.str (by kernel_rfl)) (OpensL.cons (Opens.bool (by kernel_rfl)) (OpensL.cons (Opens.int (k := .i64) (by kernel_rfl)) (OpensL.cons (Opens.int (k := .i64) (by kernel_rfl)) (OpensL.one (Opens.int (k := .i64) (by kernel_rfl)))))))))))) (Cm.frR) (fun _ => True) (fun p : Txt × Txt × Txt × Txt × Txt × Bool × Int × Int × Int => (Cm.Fr.mk p.1 p.2.1 p.2.2.1 p.2.2.2.1 p.2.2.2.2.1 p.2.2.2.2.2.1 p.2.2.2.2.2.2.1 p.2.2.2.2.2.2.2.1 p.2.2.2.2.2.2.2.2 : Cm.Fr)) (fun _ => rfl) (fun _ _ => trivial)
theorem frsO : Opens Tryd.prog 26 (fun l : List Cm.Fr => [.sl 9 (l.map Cm.frR)]) (fun _ => True) :=
  Opens.as (Opens.slice (q := 80) (sz := 9) (by kernel_rfl) (by kernel_rfl) (by omega) (fun _ => rfl) frO) (fun l : List Cm.Fr => [.sl 9 (l.map Cm.frR)]) (fun _ => True) (fun p => p) (fun _ => rfl) (fun _ _ => trivial)
theorem cndO : Opens Tryd.prog 188 Cm.Cnd.row (fun _ => True) := Opens.rec_ fun B ih => by
  have ihB : OpensB B Tryd.prog 184 (fun l : List Cm.Cnd => [.sl 8 (l.map Cm.Cnd.row)]) (fun l => ∀ a ∈ l, True) := (OpensB.slice (q := 188) (sz := 8) (by kernel_rfl) (by kernel_rfl) (by omega) (fun c => by cases c; rfl) ih).mono (Nat.le_succ _)
  exact OpensB.as (OpensB.struct Tryd.underlying188 (by kernel_rfl) (OpensLB.cons (Opens.toB (Opens.int (k := .i64) (by kernel_rfl)) B) (OpensLB.cons ihB (OpensLB.cons (Opens.toB (Opens.int (k := .i64) (by kernel_rfl)) B) (OpensLB.cons (Opens.toB (Opens.int (k := .i64) (by kernel_rfl)) B) (OpensLB.cons (Opens.toB pdO B) (OpensLB.one (Opens.toB txsO B)))))))) Cm.Cnd.row (fun _ => True) (fun p : Int × List Cm.Cnd × Int × Int × Cm.Pd × List Txt => Cm.Cnd.mk p.1 p.2.1 p.2.2.1 p.2.2.2.1 p.2.2.2.2.1 p.2.2.2.2.2) (fun p => by simp only [Cm.Cnd.row, Cm.Cnd.rows_eq, Cm.pdR, List.cons_append, List.nil_append]; rfl) (fun _ _ => trivial)
theorem perO : Opens Tryd.prog 200 (Cm.perR) (fun _ => True) :=
  Opens.as (Opens.struct Tryd.underlying200 (by kernel_rfl) (OpensL.cons (Opens.str (by kernel_rfl)) (OpensL.one (Opens.int (k := .i64) (by kernel_rfl))))) (Cm.perR) (fun _ => True) (fun p : Txt × Int => (p : Txt × Int)) (fun _ => rfl) (fun _ _ => trivial)
theorem persO : Opens Tryd.prog 190 (fun l : List ((Txt × Int)) => [.sl 2 (l.map Cm.perR)]) (fun _ => True) :=
  Opens.as (Opens.slice (q := 200) (sz := 2) (by kernel_rfl) (by kernel_rfl) (by omega) (fun _ => rfl) perO) (fun l : List ((Txt × Int)) => [.sl 2 (l.map Cm.perR)]) (fun _ => True) (fun p => p) (fun _ => rfl) (fun _ _ => trivial)
theorem rulO : Opens Tryd.prog 192 (Cm.rulR) (fun _ => True) :=
  Opens.as (Opens.struct Tryd.underlying192 (by kernel_rfl) (OpensL.cons (Opens.int (k := .i64) (by kernel_rfl)) (OpensL.cons cndO (OpensL.cons insO (OpensL.cons (Opens.int (k := .i64) (by kernel_rfl)) (OpensL.cons (Opens.int (k := .i64) (by kernel_rfl)) (OpensL.cons (Opens.int (k := .i64) (by kernel_rfl)) (OpensL.cons (Opens.int (k := .i64) (by kernel_rfl)) (OpensL.one persO))))))))) (Cm.rulR) (fun _ => True) (fun p : Int × Cm.Cnd × List Int × Int × Int × Int × Int × List (Txt × Int) => (Cm.Rul.mk p.1 p.2.1 p.2.2.1 p.2.2.2.1 p.2.2.2.2.1 p.2.2.2.2.2.1 p.2.2.2.2.2.2.1 p.2.2.2.2.2.2.2 : Cm.Rul)) (fun _ => rfl) (fun _ _ => trivial)
theorem rulR_len (r : Cm.Rul) : (Cm.rulR r).length = 15 := by
  obtain ⟨n, ⟨k, l, a, b, p, tx⟩, comb, mn, mx, ch, rf, per⟩ := r
  rfl
theorem rulsO : Opens Tryd.prog 27 (fun l : List Cm.Rul => [.sl 15 (l.map Cm.rulR)]) (fun _ => True) :=
  Opens.as (Opens.slice (q := 192) (sz := 15) (by kernel_rfl) (by kernel_rfl) (by omega) (rulR_len) rulO) (fun l : List Cm.Rul => [.sl 15 (l.map Cm.rulR)]) (fun _ => True) (fun p => p) (fun _ => rfl) (fun _ _ => trivial)
theorem lnkO : Opens Tryd.prog 202 (Cm.lnkR) (fun _ => True) :=
  Opens.as (Opens.struct Tryd.underlying202 (by kernel_rfl) (OpensL.cons (Opens.str (by kernel_rfl)) (OpensL.one (Opens.str (by kernel_rfl))))) (Cm.lnkR) (fun _ => True) (fun p : Txt × Txt => (p : Txt × Txt)) (fun _ => rfl) (fun _ _ => trivial)
theorem lnksO : Opens Tryd.prog 193 (fun l : List ((Txt × Txt)) => [.sl 2 (l.map Cm.lnkR)]) (fun _ => True) :=
  Opens.as (Opens.slice (q := 202) (sz := 2) (by kernel_rfl) (by kernel_rfl) (by omega) (fun _ => rfl) lnkO) (fun l : List ((Txt × Txt)) => [.sl 2 (l.map Cm.lnkR)]) (fun _ => True) (fun p => p) (fun _ => rfl) (fun _ _ => trivial)
theorem rouO : Opens Tryd.prog 195 (Cm.rouR) (fun _ => True) :=
  Opens.as (Opens.struct Tryd.underlying195 (by kernel_rfl) (OpensL.cons (Opens.int (k := .i64) (by kernel_rfl)) (OpensL.cons lnksO (OpensL.one (Opens.int (k := .i64) (by kernel_rfl)))))) (Cm.rouR) (fun _ => True) (fun p : Int × List (Txt × Txt) × Int => (Cm.Rou.mk p.1 p.2.1 p.2.2 : Cm.Rou)) (fun _ => rfl) (fun _ _ => trivial)
theorem rousO : Opens Tryd.prog 28 (fun l : List Cm.Rou => [.sl 3 (l.map Cm.rouR)]) (fun _ => True) :=
  Opens.as (Opens.slice (q := 195) (sz := 3) (by kernel_rfl) (by kernel_rfl) (by omega) (fun _ => rfl) rouO) (fun l : List Cm.Rou => [.sl 3 (l.map Cm.rouR)]) (fun _ => True) (fun p => p) (fun _ => rfl) (fun _ _ => trivial)
theorem taxO : Opens Tryd.prog 197 (taxR) (fun _ => True) :=
  Opens.as (Opens.struct Tryd.underlying197 (by kernel_rfl) (OpensL.cons (Opens.str (by kernel_rfl)) (OpensL.cons (Opens.int (k := .i64) (by kernel_rfl)) (OpensL.cons (Opens.str (by kernel_rfl)) (OpensL.cons (Opens.int (k := .i64) (by kernel_rfl)) (OpensL.cons (Opens.int (k := .i64) (by kernel_rfl)) (OpensL.cons (Opens.int (k := .i64) (by kernel_rfl)) (OpensL.one txsO)))))))) (taxR) (fun _ => True) (fun p : Txt × Int × Txt × Int × Int × Int × List Txt => (Tx.mk p.1 p.2.1 p.2.2.1 p.2.2.2.1 p.2.2.2.2.1 p.2.2.2.2.2.1 p.2.2.2.2.2.2 : Tx)) (fun _ => rfl) (fun _ _ => trivial)
theorem taxsO : Opens Tryd.prog 29 (fun l : List Tx => [.sl 7 (l.map taxR)]) (fun _ => True) :=
  Opens.as (Opens.slice (q := 197) (sz := 7) (by kernel_rfl) (by kernel_rfl) (by omega) (fun _ => rfl) taxO) (fun l : List Tx => [.sl 7 (l.map taxR)]) (fun _ => True) (fun p => p) (fun _ => rfl) (fun _ _ => trivial)
theorem tarO : Opens Tryd.prog 31 (fun t : Cm.Tar × List Tx => Cm.tarV t.1 (t.2.map taxR)) (fun _ => True) :=
  Opens.as (Opens.struct Tryd.underlying31 (by kernel_rfl) (OpensL.cons frsO (OpensL.cons rulsO (OpensL.cons rousO (OpensL.one taxsO))))) (fun t : Cm.Tar × List Tx => Cm.tarV t.1 (t.2.map taxR)) (fun _ => True) (fun p : List Cm.Fr × List Cm.Rul × List Cm.Rou × List Tx => ((Cm.Tar.mk p.1 p.2.1 p.2.2.1, p.2.2.2) : Cm.Tar × List Tx)) (fun _ => rfl) (fun _ _ => trivial)
theorem ptO : Opens Tryd.prog 69 (ptR) (fun _ => True) :=
  Opens.as (Opens.struct Tryd.underlying69 (by kernel_rfl) (OpensL.cons (Opens.int (k := .i64) (by kernel_rfl)) (OpensL.cons (Opens.int (k := .i64) (by kernel_rfl)) (OpensL.cons (Opens.int (k := .i64) (by kernel_rfl)) (OpensL.one (Opens.int (k := .i64) (by kernel_rfl))))))) (ptR) (fun _ => True) (fun p : Int × Int × Int × Int => (Pt.mk p.1 p.2.1 p.2.2.1 p.2.2.2 : Pt)) (fun _ => rfl) (fun _ _ => trivial)
theorem ptsO : Opens Tryd.prog 33 (fun l : List Pt => [.sl 4 (l.map ptR)]) (fun _ => True) :=
  Opens.as (Opens.slice (q := 69) (sz := 4) (by kernel_rfl) (by kernel_rfl) (by omega) (fun _ => rfl) ptO) (fun l : List Pt => [.sl 4 (l.map ptR)]) (fun _ => True) (fun p => p) (fun _ => rfl) (fun _ _ => trivial)
theorem prsO0 : Opens Tryd.prog 198 Cm.shR (fun _ => True) :=
  Opens.as (opens_arr2 (e := 3) (by kernel_rfl) (by kernel_rfl) (Opens.int (k := .i64) (by kernel_rfl))) Cm.shR (fun _ => True) (fun p : Int × Int => p) (fun _ => rfl) (fun _ _ => trivial)
theorem prsO : Opens Tryd.prog 34 (fun l : List ((Int × Int)) => [.sl 2 (l.map Cm.shR)]) (fun _ => True) :=
  Opens.as (Opens.slice (q := 198) (sz := 2) (by kernel_rfl) (by kernel_rfl) (by omega) (fun _ => rfl) prsO0) (fun l : List ((Int × Int)) => [.sl 2 (l.map Cm.shR)]) (fun _ => True) (fun p => p) (fun _ => rfl) (fun _ _ => trivial)
theorem chgO : Opens Tryd.prog 74 (chgR) (fun _ => True) :=
  Opens.as (Opens.struct Tryd.underlying74 (by kernel_rfl) (OpensL.cons (Opens.str (by kernel_rfl)) (OpensL.one (Opens.int (k := .i64) (by kernel_rfl))))) (chgR) (fun _ => True) (fun p : Txt × Int => (Chg.mk p.1 p.2 : Chg)) (fun _ => rfl) (fun _ _ => trivial)
theorem chgsO : Opens Tryd.prog 35 (fun l : List Chg => [.sl 2 (l.map chgR)]) (fun _ => True) :=
  Opens.as (Opens.slice (q := 74) (sz := 2) (by kernel_rfl) (by kernel_rfl) (by omega) (fun _ => rfl) chgO) (fun l : List Chg => [.sl 2 (l.map chgR)]) (fun _ => True) (fun p => p) (fun _ => rfl) (fun _ _ => trivial)
theorem qtO : Opens Tryd.prog 37 (qtR) (fun _ => True) :=
  Opens.as (Opens.struct Tryd.underlying37 (by kernel_rfl) (OpensL.cons ptsO (OpensL.cons prsO (OpensL.cons chgsO (OpensL.cons (Opens.int (k := .i64) (by kernel_rfl)) (OpensL.one (Opens.int (k := .i64) (by kernel_rfl)))))))) (qtR) (fun _ => True) (fun p : List Pt × List (Int × Int) × List Chg × Int × Int => (Qt.mk p.1 p.2.1 p.2.2.1 p.2.2.2.1 p.2.2.2.2 : Qt)) (fun _ => rfl) (fun _ _ => trivial)
structure Pri where
  p : Cm.Pls
  t : Cm.Tar
  tx : List Tx
  l : List Cm.Wnt
  q : Qt
def priR (c : Pri) : List V := prR c.p c.t (c.tx.map taxR) c.l c.q
theorem priO : Opens Tryd.prog 39 (priR) (fun _ => True) :=
  Opens.as (Opens.struct Tryd.underlying39 (by kernel_rfl) (OpensL.cons plO (OpensL.cons tarO (OpensL.cons wntsO (OpensL.one qtO))))) (priR) (fun _ => True) (fun p : Cm.Pls × (Cm.Tar × List Tx) × List Cm.Wnt × Qt => (Pri.mk p.1 p.2.1.1 p.2.1.2 p.2.2.1 p.2.2.2 : Pri)) (fun _ => rfl) (fun _ _ => trivial)
end Go.Proofs.YtkdbghhdklfoiaaDoor
