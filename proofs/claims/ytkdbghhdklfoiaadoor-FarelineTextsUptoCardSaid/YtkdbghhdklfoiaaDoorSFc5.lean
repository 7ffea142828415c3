/- Of: fare calculations of prices, both sides. -/
import Derived.Test.YtkdbghhdklfoiaaDoorSFb5
import Derived.Test.YtkdbghhdklfoiaaDoorSFc2
import Derived.Test.YtkdbghhdklfoiaaDoorSFc3
namespace Go.Proofs.YtkdbghhdklfoiaaDoor
open Go Go.AL Go.RowKit
set_option linter.unusedSectionVars false
variable [Go.AL.Mode] [Go.AL.LooseM]
set_option linter.unusedSimpArgs false
set_option linter.unusedVariables false
structure Pt where
  fr : Int
  to : Int
  fare : Int
  am : Int
structure Qt where
  ps : List Pt
  prs : List (Int × Int)
  tx : List Chg
  fare : Int
  tot : Int
structure RtOk (p : Cm.Pls) (t : Cm.Tar) (l : List Cm.Wnt) (q : Qt) : Prop where
  sml : Cm.Sml p t l
  n10 : q.ps.length ≤ 10
  n20 : q.tx.length ≤ 20
  rng : ∀ y ∈ q.ps, 0 ≤ y.fr ∧ y.fr ≤ y.to ∧ y.to ≤ l.length ∧ 0 ≤ y.fare ∧ y.fare < t.fares.length
def rowK (a : Itm × V) : List V := [.sl 1 (a.1.cs.map txR), a.2, .int .i64 a.1.am, .str a.1.ba]
structure OfN (T q : TypeId) (S : Store) (acc : List (Itm × V)) (v : V) (row : List V) (S1 : Store) : Prop where
  b0 : S1.obj? S.length 0 = some (T, 4, [[.nilSl, .nilSl, .int .i64 0, .int .i64 0]])
  bx : S1.obj? (S.length + 1) 0 = some (T, 4, [row])
  l : Lst (S.length + 2) S1 q 4 (acc.map rowK) v
  ks : ∀ a ∈ acc, Lst (S.length + 2) S1 9 1 (a.1.ks.map txR) a.2 ∧ ∀ i, idOf a.2 i → ¬ idOf v i
  ext : ∃ X, S1 = S ++ X
section
variable {T q : TypeId} {S : Store} {acc : List (Itm × V)} {v : V} {row : List V} {S1 : Store}
theorem OfN.len (h : OfN T q S acc v row S1) : S.length + 2 ≤ S1.length := by
  have := obj_lt h.bx
  omega
theorem OfN.frm (h : OfN T q S acc v row S1) {D : Nat → Prop} {S2 : Store} (f : Frm D S1 S2) (h0 : ∀ i, D i → S.length + 2 ≤ i) (h1 : ∀ i, idOf v i → ¬ D i) (h2 : ∀ a ∈ acc, ∀ i, idOf a.2 i → ¬ D i) : OfN T q S acc v row S2 :=
  ⟨f.obj h.b0 (fun hd => by have := h0 _ hd; omega), f.obj h.bx (fun hd => by have := h0 _ hd; omega), h.l.frm f h1, fun a ha => ⟨(h.ks a ha).1.frm f (h2 a ha), (h.ks a ha).2⟩, f.ext h.ext fun i hi => by have := h0 i hi; omega⟩
theorem OfN.add (h : OfN T q S acc v row S1) (X : Store) : OfN T q S acc v row (S1 ++ X) := h.frm (Frm.add (fun _ => False) S1 X) (fun _ h => h.elim) (fun _ _ h => h) fun _ _ _ _ h => h
theorem OfN.box (h : OfN T q S acc v row S1) (row2 : List V) : OfN T q S acc v row2 (S1.set (S.length + 1) ⟨0, some (.arr T 4 [row2])⟩) := by
  have f := frm_set S1 (S.length + 1) ⟨0, some (.arr T 4 [row2])⟩
  exact ⟨f.obj h.b0 (by omega), obj_set h.bx, h.l.frm f fun i hi => by have := (h.l.lt hi).2; omega, fun a ha => ⟨(h.ks a ha).1.frm f fun i hi => by have := ((h.ks a ha).1.lt hi).2; omega, (h.ks a ha).2⟩, f.ext h.ext fun i hi => by omega⟩
theorem OfN.app (h : OfN T q S acc v row S1) {a : Itm × V} {K : V → Store → Prop} (hl : acc.length ≤ 1000000) (ha : Lst (S.length + 2) S1 9 1 (a.1.ks.map txR) a.2) (hd : ∀ i, idOf a.2 i → ¬ idOf v i)
    (k : ∀ v' S2, OfN T q S (acc ++ [a]) v' row S2 → K v' S2) : appK q 4 v (some (4, [rowK a])) S1 K := by
  have hln := h.len
  refine h.l.app (by omega) (by simpa using hl) fun v' S2 k2 f2 i2 => k v' S2 ⟨f2.obj h.b0 (fun hi => by have := (h.l.lt hi).2; omega), f2.obj h.bx (fun hi => by have := (h.l.lt hi).2; omega), by rw [List.map_append]; exact k2, fun b hb => ?_, f2.ext h.ext fun i hi => by have := (h.l.lt hi).2; omega⟩
  have hb2 : Lst (S.length + 2) S1 9 1 (b.1.ks.map txR) b.2 ∧ ∀ i, idOf b.2 i → ¬ idOf v i := by
    rcases List.mem_append.1 hb with hb | hb
    · exact h.ks b hb
    · rw [List.mem_singleton] at hb
      rw [hb]
      exact ⟨ha, hd⟩
  refine ⟨hb2.1.frm f2 hb2.2, fun i hi hj => ?_⟩
  rcases i2 i hj with hj | hj
  · exact hb2.2 i hi hj
  · have := (hb2.1.lt hi).1
    omega
end
structure InN (T q : TypeId) (S : Store) (acc : List (Itm × V)) (v : V) (row : List V) (b : Nat) (cs ks : List Txt) (kv : V) (am : Int) (ba : Txt) (S1 : Store) : Prop where
  o : OfN T q S acc v row S1
  bb : S1.obj? b 0 = some (q, 4, [[.sl 1 (cs.map txR), kv, .int .i64 am, .str ba]])
  kl : Lst (S.length + 2) S1 9 1 (ks.map txR) kv
  hb : S.length + 2 ≤ b
  d1 : ∀ i, idOf v i → i ≠ b ∧ ¬ idOf kv i
  d2 : ∀ i, idOf kv i → i ≠ b
  d3 : ∀ a ∈ acc, ∀ i, idOf a.2 i → i ≠ b ∧ ¬ idOf kv i
section
variable {T q : TypeId} {S : Store} {acc : List (Itm × V)} {v : V} {row : List V} {b : Nat} {cs ks : List Txt} {kv : V} {am : Int} {ba : Txt} {S1 : Store}
theorem OfN.start (h : OfN T q S acc v row S1) (cs : List Txt) (am : Int) (ba : Txt) : InN T q S acc v row S1.length cs [] .nilSl am ba (S1 ++ [⟨0, some (.arr q 4 [[.sl 1 (cs.map txR), .nilSl, .int .i64 am, .str ba]])⟩]) := by
  have hln := h.len
  refine ⟨h.add _, ob_app0.trans ob_head, .inl ⟨rfl, rfl⟩, by omega, fun i hi => ⟨by have := (h.l.lt hi).1; omega, fun ⟨_, _, _, e⟩ => (by cases e)⟩, fun i ⟨_, _, _, e⟩ => (by cases e), fun a ha i hi => ⟨by have := ((h.ks a ha).1.lt hi).1; omega, fun ⟨_, _, _, e⟩ => by cases e⟩⟩
theorem InN.add (h : InN T q S acc v row b cs ks kv am ba S1) (X : Store) : InN T q S acc v row b cs ks kv am ba (S1 ++ X) := by
  have f := Frm.add (fun _ => False) S1 X
  exact ⟨h.o.add X, f.obj h.bb id, h.kl.frm f fun _ _ h => h, h.hb, h.d1, h.d2, h.d3⟩
theorem InN.app (h : InN T q S acc v row b cs ks kv am ba S1) {k : Txt} {K : V → Store → Prop} (hl : ks.length ≤ 1000000)
    (c : ∀ kv' S2, S2.obj? b 0 = some (q, 4, [[.sl 1 (cs.map txR), kv, .int .i64 am, .str ba]]) → InN T q S acc v row b cs (ks ++ [k]) kv' am ba (S2.set b ⟨0, some (.arr q 4 [[.sl 1 (cs.map txR), kv', .int .i64 am, .str ba]])⟩) → kv'.cells? = some [kv'] → K kv' S2) : appK 9 1 kv (some (1, [[.str k]])) S1 K := by
  have hln := h.o.len
  refine h.kl.app (by omega) (by simpa using hl) fun v' S2 k2 f2 i2 => ?_
  have hbb := f2.obj h.bb fun hi => h.d2 _ hi rfl
  have hbl := obj_lt h.bb
  refine c v' S2 hbb ?_ k2.cells
  have ho := h.o.frm f2 (fun i hi => (h.kl.lt hi).2) (fun i hi => (h.d1 i hi).2) fun a ha i hi => (h.d3 a ha i hi).2
  have f := frm_set S2 b ⟨0, some (.arr q 4 [[.sl 1 (cs.map txR), v', .int .i64 am, .str ba]])⟩
  have hvb : ∀ i, idOf v' i → i ≠ b := fun i hi => by
    rcases i2 i hi with hi | hi
    · exact h.d2 i hi
    · omega
  refine ⟨ho.frm f (fun i hi => by rw [hi]; exact h.hb) (fun i hi => (h.d1 i hi).1) fun a ha i hi => (h.d3 a ha i hi).1, obj_set hbb, ?_, h.hb, fun i hi => ⟨(h.d1 i hi).1, fun hj => ?_⟩, hvb, fun a ha i hi => ⟨(h.d3 a ha i hi).1, fun hj => ?_⟩⟩
  · rw [List.map_append]
    exact Lst.frm k2 f hvb
  · rcases i2 i hj with hj | hj
    · exact (h.d1 i hi).2 hj
    · have := (h.o.l.lt hi).1; omega
  · rcases i2 i hj with hj | hj
    · exact (h.d3 a ha i hi).2 hj
    · have := ((h.o.ks a ha).1.lt hi).1; omega
end
end Go.Proofs.YtkdbghhdklfoiaaDoor
/- Of: the reference's. -/
namespace Go.Proofs.YtkdbghhdklfoiaaDoor
open Go Go.AL Go.RowKit
set_option linter.unusedSectionVars false
variable [Go.AL.Mode] [Go.AL.LooseM]
set_option linter.unusedSimpArgs false
set_option linter.unusedVariables false
end Go.Proofs.YtkdbghhdklfoiaaDoor
