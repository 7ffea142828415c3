/- Of: fare calculations of prices, both sides. -/
import Derived.Test.YtkdbghhdklfoiaaDoorRFb5
import Derived.Test.YtkdbghhdklfoiaaDoorRFc2
import Derived.Test.YtkdbghhdklfoiaaDoorRFc3
namespace Go.Proofs.YtkdbghhdklfoiaaDoor
open Go Go.AL Go.RowKit
set_option linter.unusedSectionVars false
variable [Go.AL.Mode] [Go.AL.LooseM]
set_option linter.unusedSimpArgs false
set_option linter.unusedVariables false
structure Pt where
  fr : Int
  to : Int
  fare : Int
  am : Int
def ptR (y : Pt) : List V := [.int .i64 y.fr, .int .i64 y.to, .int .i64 y.fare, .int .i64 y.am]
structure Qt where
  ps : List Pt
  prs : List (Int × Int)
  tx : List Chg
  fare : Int
  tot : Int
def qtR (q : Qt) : List V := [.sl 4 (q.ps.map ptR), .sl 2 (q.prs.map Cm.shR), .sl 2 (q.tx.map chgR), .int .i64 q.fare, .int .i64 q.tot]
def segF (l : List Cm.Wnt) (y : Pt) : List Cm.Wnt := (l.take y.to.toNat).drop y.fr.toNat
def itemOf (p : Cm.Pls) (t : Cm.Tar) (l : List Cm.Wnt) (y : Pt) : Itm := ⟨Cm.citiesF p (segF l y), (segF l y).map (·.s.c), y.am, (t.fares[y.fare.toNat]?.map (·.bas)).getD []⟩
def ofF (p : Cm.Pls) (t : Cm.Tar) (l : List Cm.Wnt) (q : Qt) : Cal := ⟨q.ps.map (itemOf p t l), q.tx, q.fare, q.tot⟩
structure RtOk (p : Cm.Pls) (t : Cm.Tar) (l : List Cm.Wnt) (q : Qt) : Prop where
  sml : Cm.Sml p t l
  n10 : q.ps.length ≤ 10
  n20 : q.tx.length ≤ 20
  rng : ∀ y ∈ q.ps, 0 ≤ y.fr ∧ y.fr ≤ y.to ∧ y.to ≤ l.length ∧ 0 ≤ y.fare ∧ y.fare < t.fares.length
def rowK (a : Itm × V) : List V := [.sl 1 (a.1.cs.map txR), a.2, .int .i64 a.1.am, .str a.1.ba]
structure OfN (T q : TypeId) (S : Store) (acc : List (Itm × V)) (v : V) (row : List V) (S1 : Store) : Prop where
  b0 : S1.obj? S.length 0 = some (T, 4, [[.nilSl, .nilSl, .int .i64 0, .int .i64 0]])
  bx : S1.obj? (S.length + 1) 0 = some (T, 4, [row])
  l : Lst (S.length + 2) S1 q 4 (acc.map rowK) v
  ks : ∀ a ∈ acc, Lst (S.length + 2) S1 9 1 (a.1.ks.map txR) a.2 ∧ ∀ i, idOf a.2 i → ¬ idOf v i
  ext : ∃ X, S1 = S ++ X
section
variable {T q : TypeId} {S : Store} {acc : List (Itm × V)} {v : V} {row : List V} {S1 : Store}
theorem OfN.len (h : OfN T q S acc v row S1) : S.length + 2 ≤ S1.length := by
  have := obj_lt h.bx
  omega
theorem OfN.frm (h : OfN T q S acc v row S1) {D : Nat → Prop} {S2 : Store} (f : Frm D S1 S2) (h0 : ∀ i, D i → S.length + 2 ≤ i) (h1 : ∀ i, idOf v i → ¬ D i) (h2 : ∀ a ∈ acc, ∀ i, idOf a.2 i → ¬ D i) : OfN T q S acc v row S2 :=
  ⟨f.obj h.b0 (fun hd => by have := h0 _ hd; omega), f.obj h.bx (fun hd => by have := h0 _ hd; omega), h.l.frm f h1, fun a ha => ⟨(h.ks a ha).1.frm f (h2 a ha), (h.ks a ha).2⟩, f.ext h.ext fun i hi => by have := h0 i hi; omega⟩
theorem OfN.add (h : OfN T q S acc v row S1) (X : Store) : OfN T q S acc v row (S1 ++ X) := h.frm (Frm.add (fun _ => False) S1 X) (fun _ h => h.elim) (fun _ _ h => h) fun _ _ _ _ h => h
theorem OfN.box (h : OfN T q S acc v row S1) (row2 : List V) : OfN T q S acc v row2 (S1.set (S.length + 1) ⟨0, some (.arr T 4 [row2])⟩) := by
  have f := frm_set S1 (S.length + 1) ⟨0, some (.arr T 4 [row2])⟩
  exact ⟨f.obj h.b0 (by omega), obj_set h.bx, h.l.frm f fun i hi => by have := (h.l.lt hi).2; omega, fun a ha => ⟨(h.ks a ha).1.frm f fun i hi => by have := ((h.ks a ha).1.lt hi).2; omega, (h.ks a ha).2⟩, f.ext h.ext fun i hi => by omega⟩
theorem OfN.app (h : OfN T q S acc v row S1) {a : Itm × V} {K : V → Store → Prop} (hl : acc.length ≤ 1000000) (ha : Lst (S.length + 2) S1 9 1 (a.1.ks.map txR) a.2) (hd : ∀ i, idOf a.2 i → ¬ idOf v i)
    (k : ∀ v' S2, OfN T q S (acc ++ [a]) v' row S2 → K v' S2) : appK q 4 v (some (4, [rowK a])) S1 K := by
  have hln := h.len
  refine h.l.app (by omega) (by simpa using hl) fun v' S2 k2 f2 i2 => k v' S2 ⟨f2.obj h.b0 (fun hi => by have := (h.l.lt hi).2; omega), f2.obj h.bx (fun hi => by have := (h.l.lt hi).2; omega), by rw [List.map_append]; exact k2, fun b hb => ?_, f2.ext h.ext fun i hi => by have := (h.l.lt hi).2; omega⟩
  have hb2 : Lst (S.length + 2) S1 9 1 (b.1.ks.map txR) b.2 ∧ ∀ i, idOf b.2 i → ¬ idOf v i := by
    rcases List.mem_append.1 hb with hb | hb
    · exact h.ks b hb
    · rw [List.mem_singleton] at hb
      rw [hb]
      exact ⟨ha, hd⟩
  refine ⟨hb2.1.frm f2 hb2.2, fun i hi hj => ?_⟩
  rcases i2 i hj with hj | hj
  · exact hb2.2 i hi hj
  · have := (hb2.1.lt hi).1
    omega
end
structure InN (T q : TypeId) (S : Store) (acc : List (Itm × V)) (v : V) (row : List V) (b : Nat) (cs ks : List Txt) (kv : V) (am : Int) (ba : Txt) (S1 : Store) : Prop where
  o : OfN T q S acc v row S1
  bb : S1.obj? b 0 = some (q, 4, [[.sl 1 (cs.map txR), kv, .int .i64 am, .str ba]])
  kl : Lst (S.length + 2) S1 9 1 (ks.map txR) kv
  hb : S.length + 2 ≤ b
  d1 : ∀ i, idOf v i → i ≠ b ∧ ¬ idOf kv i
  d2 : ∀ i, idOf kv i → i ≠ b
  d3 : ∀ a ∈ acc, ∀ i, idOf a.2 i → i ≠ b ∧ ¬ idOf kv i
section
variable {T q : TypeId} {S : Store} {acc : List (Itm × V)} {v : V} {row : List V} {b : Nat} {cs ks : List Txt} {kv : V} {am : Int} {ba : Txt} {S1 : Store}
theorem OfN.start (h : OfN T q S acc v row S1) (cs : List Txt) (am : Int) (ba : Txt) : InN T q S acc v row S1.length cs [] .nilSl am ba (S1 ++ [⟨0, some (.arr q 4 [[.sl 1 (cs.map txR), .nilSl, .int .i64 am, .str ba]])⟩]) := by
  have hln := h.len
  refine ⟨h.add _, ob_app0.trans ob_head, .inl ⟨rfl, rfl⟩, by omega, fun i hi => ⟨by have := (h.l.lt hi).1; omega, fun ⟨_, _, _, e⟩ => (by cases e)⟩, fun i ⟨_, _, _, e⟩ => (by cases e), fun a ha i hi => ⟨by have := ((h.ks a ha).1.lt hi).1; omega, fun ⟨_, _, _, e⟩ => by cases e⟩⟩
theorem InN.add (h : InN T q S acc v row b cs ks kv am ba S1) (X : Store) : InN T q S acc v row b cs ks kv am ba (S1 ++ X) := by
  have f := Frm.add (fun _ => False) S1 X
  exact ⟨h.o.add X, f.obj h.bb id, h.kl.frm f fun _ _ h => h, h.hb, h.d1, h.d2, h.d3⟩
theorem InN.app (h : InN T q S acc v row b cs ks kv am ba S1) {k : Txt} {K : V → Store → Prop} (hl : ks.length ≤ 1000000)
    (c : ∀ kv' S2, S2.obj? b 0 = some (q, 4, [[.sl 1 (cs.map txR), kv, .int .i64 am, .str ba]]) → InN T q S acc v row b cs (ks ++ [k]) kv' am ba (S2.set b ⟨0, some (.arr q 4 [[.sl 1 (cs.map txR), kv', .int .i64 am, .str ba]])⟩) → kv'.cells? = some [kv'] → K kv' S2) : appK 9 1 kv (some (1, [[.str k]])) S1 K := by
  have hln := h.o.len
  refine h.kl.app (by omega) (by simpa using hl) fun v' S2 k2 f2 i2 => ?_
  have hbb := f2.obj h.bb fun hi => h.d2 _ hi rfl
  have hbl := obj_lt h.bb
  refine c v' S2 hbb ?_ k2.cells
  have ho := h.o.frm f2 (fun i hi => (h.kl.lt hi).2) (fun i hi => (h.d1 i hi).2) fun a ha i hi => (h.d3 a ha i hi).2
  have f := frm_set S2 b ⟨0, some (.arr q 4 [[.sl 1 (cs.map txR), v', .int .i64 am, .str ba]])⟩
  have hvb : ∀ i, idOf v' i → i ≠ b := fun i hi => by
    rcases i2 i hi with hi | hi
    · exact h.d2 i hi
    · omega
  refine ⟨ho.frm f (fun i hi => by rw [hi]; exact h.hb) (fun i hi => (h.d1 i hi).1) fun a ha i hi => (h.d3 a ha i hi).1, obj_set hbb, ?_, h.hb, fun i hi => ⟨(h.d1 i hi).1, fun hj => ?_⟩, hvb, fun a ha i hi => ⟨(h.d3 a ha i hi).1, fun hj => ?_⟩⟩
  · rw [List.map_append]
    exact Lst.frm k2 f hvb
  · rcases i2 i hj with hj | hj
    · exact (h.d1 i hi).2 hj
    · have := (h.o.l.lt hi).1; omega
  · rcases i2 i hj with hj | hj
    · exact (h.d3 a ha i hi).2 hj
    · have := ((h.o.ks a ha).1.lt hi).1; omega
end
theorem of_fin {T q : TypeId} {S : Store} {acc : List (Itm × V)} {txs : List Chg} {v : V} {row : List V} {S1 : Store} (hn : Neat S) (h : OfN T q S acc v row S1) (fare tot : Int) (o : Go.AL.Obj) :
    ∃ r1 S2, Fgt (S1.set S.length o) S2 ∧ Frz (S1.set S.length o) S2 (.agg [v, .sl 2 (txs.map chgR), .int .i64 fare, .int .i64 tot]) r1 ∧ S.length ≤ S2.length ∧ r1 = .agg (calR ⟨acc.map (·.1), txs, fare, tot⟩) ∧ S2 = S := by
  have f := frm_set S1 S.length o
  have h1 := h.l.frm f fun i hi => by have := (h.l.lt hi).2; omega
  have h2 : ∀ a ∈ acc, Lst (S.length + 2) (S1.set S.length o) 9 1 (a.1.ks.map txR) a.2 := fun a ha => (h.ks a ha).1.frm f fun i hi => by have := ((h.ks a ha).1.lt hi).2; omega
  obtain ⟨X, hX⟩ := f.ext h.ext fun i hi => by omega
  refine ⟨_, S, by rw [hX]; exact hn.fgt _, frz_agg (show FrzAll _ _ _ (calR ⟨acc.map (·.1), txs, fare, tot⟩) from ⟨?_, .imm rfl, .imm rfl, .imm rfl, trivial⟩), Nat.le_refl _, rfl, rfl⟩
  have him := itmR_imm (acc.map (·.1))
  simp only at him ⊢
  rcases h1 with ⟨rfl, hr⟩ | ⟨c, ver, g1, rfl, g3⟩
  · have : acc = [] := by cases acc with | nil => rfl | cons a l => cases hr
    subst this
    exact .nil
  · refine .msl (fun o ho => ?_) g3 (.inl rfl) (by simp) (fun i r hi => (him r (List.mem_of_getElem? hi)).1) (fun i r hi j w hj q x hq hx => ?_) (fun i r hi j w hj => V.allImm_get (him r (List.mem_of_getElem? hi)).2 j w hj)
    · have := (List.getElem?_eq_some_iff.1 ho).1
      omega
    · rw [Nat.zero_add, List.getElem?_map] at hq
      rw [List.map_map, List.getElem?_map] at hi
      obtain ⟨a, ha, rfl⟩ := Option.map_eq_some_iff.1 hq
      rw [ha] at hi
      simp only [Option.map_some, Option.some.injEq, Function.comp_apply] at hi
      subst hi
      match j with
      | 0 => simp only [itmR, rowK, List.getElem?_cons_zero, Option.some.injEq] at hj hx; subst hj hx; exact .imm rfl
      | 1 =>
        simp only [itmR, rowK, List.getElem?_cons_zero, List.getElem?_cons_succ, Option.some.injEq] at hj hx
        subst hj hx
        exact (h2 a (List.mem_of_getElem? ha)).frz (by omega) (tx_imm _)
      | 2 => simp only [itmR, rowK, List.getElem?_cons_zero, List.getElem?_cons_succ, Option.some.injEq] at hj hx; subst hj hx; exact .imm rfl
      | 3 => simp only [itmR, rowK, List.getElem?_cons_zero, List.getElem?_cons_succ, Option.some.injEq] at hj hx; subst hj hx; exact .imm rfl
      | j + 4 => simp [itmR] at hj
set_option maxHeartbeats 4000000 in
theorem of_A (p : Cm.Pls) (t : Cm.Tar) (tx : List (List V)) (l : List Cm.Wnt) (q : Qt) (h : RtOk p t l q) (S : Store) : CallA Tryd.prog 10 [Cm.plV p, .agg (Cm.tarV t tx), .sl 8 (l.map Cm.wntR), .agg (qtR q)] S fun r S' => r = .agg (calR (ofF p t l q)) ∧ S' = S := by
  refine CallA.withNeat Tryd.func10 c10010 fun hn => ?_
  refine CallA.fin Tryd.func10 c10010 (Nat.le_of_ble_eq_true rfl) fun σ hσ => ?_
  have hsm := h.sml
  have n10 := h.n10
  have n20 := h.n20
  have cl := fun S => clone_A q.tx (by omega) S
  have l8 := hsm.segs
  simp (disch := first | omega | (simp only [lenT]; omega)) only [a10010, Cm.plV, Cm.tarV, qtR, evSt, ↓evPre, ↓evPreW, evPost, evPostW, evR, evU, seval]
  refine exD.intro (cl _) ?_
  simp (disch := first | omega | (simp only [lenT]; omega)) only [evSt, ↓evPre, ↓evPreW, evPost, evPostW, evR, evU, seval]
  refine ⟨cl, ?_⟩
  have h0 : OfN 49 72 S [] .nilSl [.nilSl, .sl 2 (q.tx.map chgR), .int .i64 q.fare, .int .i64 q.tot] (S ++ [⟨0, some (.arr 49 4 [[.nilSl, .nilSl, .int .i64 0, .int .i64 0]])⟩, ⟨0, some (.arr 49 4 [[.nilSl, .sl 2 (q.tx.map chgR), .int .i64 q.fare, .int .i64 q.tot]])⟩]) :=
    ⟨ob_app0.trans ob_head, by rw [ob_app, ob_cons, ob_head], .inl ⟨rfl, rfl⟩, fun a ha => (by cases ha), ⟨_, rfl⟩⟩
  obtain ⟨c4, hc4⟩ : ∃ c4, c4 = V.cptr [.sl 5 (p.1.map Cm.aptR), .sl 3 (p.2.map Cm.dstR)] := ⟨_, rfl⟩
  obtain ⟨c5, hc5⟩ : ∃ c5, c5 = V.cptr (Cm.tarV t tx) := ⟨_, rfl⟩
  refine loopF (ι := Nat × List (Itm × V) × V × Store) (fun i => [(2, .sl 8 (l.map Cm.wntR)), (4, c4), (5, c5), (8, .ptr S.length 0 0 0), (9, .ptr (S.length + 1) 0 0 0), (25, .sl 4 (q.ps.map ptR)), (26, .int .i64 q.ps.length), (27, .int .i64 i.1)]) (fun i => i.2.2.2)
    (fun i => i.1 ≤ q.ps.length ∧ i.2.1.map (·.1) = (q.ps.take i.1).map (itemOf p t l) ∧ OfN 49 72 S i.2.1 i.2.2.1 [i.2.2.1, .sl 2 (q.tx.map chgR), .int .i64 q.fare, .int .i64 q.tot] i.2.2.2) (fun i => q.ps.length - i.1)
    (fun i hi => by rw [hσ]; have := hi.2.2.len; omega) (0, [], .nilSl, _) ⟨Nat.zero_le _, rfl, h0⟩ (.inl ⟨?_, rfl⟩) ?_
  · simp only [hc4, hc5, Cm.tarV, ↓evPre, ↓evPreW, evPost, evPostW, evR, evU, seval]
    try rfl
  clear h0
  rintro ⟨k, acc, v, S1⟩ ⟨hk, hacc, hP⟩
  simp only at hk hacc hP ⊢
  have hal : acc.length ≤ 10 := by
    have := congrArg List.length hacc
    simp at this
    omega
  cases hcx : q.ps[k]? with
  | none =>
    have hge : q.ps.length ≤ k := List.getElem?_eq_none_iff.1 hcx
    have hlt : ¬ ((k : Int) < q.ps.length) := by omega
    rw [List.take_of_length_le hge] at hacc
    have b0 := hP.b0
    have bx := hP.bx
    have ok := hP.l.cellOk
    have hob := obj_set (rows' := [[v, .sl 2 (q.tx.map chgR), .int .i64 q.fare, .int .i64 q.tot]]) (ver' := 0) b0
    simp (disch := first | omega | (simp only [lenT]; omega)) only [dF hlt, b0, bx, ok, hob, evSt, ↓evPre, ↓evPreW, evPost, evPostW, evR, evU, seval]
    unfold ofF
    rw [← hacc]
    exact of_fin hn hP q.fare q.tot _
  | some y =>
    have hlt' := (List.getElem?_eq_some_iff.1 hcx).1
    have hlt : ((k : Int) < q.ps.length) := by omega
    have hk1 : (k : Int) + 1 = ((k + 1 : Nat) : Int) := by omega
    obtain ⟨r1, r2, r3, r4, r5⟩ := h.rng y (List.mem_of_getElem? hcx)
    have hio : itemOf p t l y = ⟨Cm.citiesF p (segF l y), (segF l y).map (·.s.c), y.am, (t.fares[y.fare.toNat]?.map (·.bas)).getD []⟩ := rfl
    obtain ⟨fr, to, fa, am⟩ := y
    simp only at r1 r2 r3 r4 r5
    obtain ⟨a, rfl⟩ : ∃ a : Nat, fr = (a : Int) := ⟨fr.toNat, by omega⟩
    obtain ⟨b, rfl⟩ : ∃ b : Nat, to = (b : Int) := ⟨to.toNat, by omega⟩
    obtain ⟨f, rfl⟩ : ∃ f : Nat, fa = (f : Int) := ⟨fa.toNat, by omega⟩
    obtain ⟨w, hw⟩ : ∃ w, t.fares[f]? = some w := ⟨_, List.getElem?_eq_getElem (by omega)⟩
    unfold segF at hio
    simp only [Int.toNat_natCast, hw, Option.map_some, Option.getD_some] at hio
    have z1 : ¬ ((a : Int) < 0) := by omega
    have z2 : ¬ ((b : Int) < (a : Int)) := by omega
    have z3 : ¬ ((l.length : Int) < (b : Int)) := by omega
    have z4 : ¬ ((f : Int) < 0) := by omega
    have z5 : ¬ ((t.fares.length : Int) ≤ (f : Int)) := by omega
    obtain ⟨sg, hsg⟩ : ∃ sg, sg = (l.drop a).take (b - a) := ⟨_, rfl⟩
    have hsl : sg.length ≤ 8 := by rw [hsg, List.length_take, List.length_drop]; omega
    rw [List.drop_take, ← hsg] at hio
    have ct := fun S => Cm.cities_A p (by have := hsm.apts; omega) sg hsl S
    simp only [Cm.plV] at ct
    have hP1 := hP.add [⟨0, some (.arr 69 4 [[.int .i64 a, .int .i64 b, .int .i64 f, .int .i64 am]])⟩]
    rw [hc4, hc5]
    simp (disch := first | omega | (simp only [lenT]; omega)) only [dT hlt, hcx, ptR, Cm.tarV, dF z1, dF z2, dF z3, dF z4, dF z5, evSt, ↓evPre, ↓evPreW, evPost, evPostW, evR, evU, seval]
    rw [if_pos ⟨r2, r3⟩, ← hsg]
    have hfr : (Cm.frR w)[3]? = some (.str w.bas) := rfl
    simp (disch := first | omega | (simp only [lenT]; omega)) only [hw, Cm.frR, evSt, ↓evPre, ↓evPreW, evPost, evPostW, evR, evU, seval]
    refine exD.intro (ct _) ?_
    generalize (S1 ++ [_] : Store) = S2 at hP1 ⊢
    have hI := hP1.start (Cm.citiesF p sg) am w.bas
    simp (disch := first | omega | (simp only [lenT]; omega)) only [evSt, ↓evPre, ↓evPreW, evPost, evPostW, evR, evU, seval]
    refine ⟨ct, ?_⟩
    obtain ⟨b1, hb1⟩ : ∃ b1, b1 = S2.length := ⟨_, rfl⟩
    rw [← hb1] at hI
    refine loopF (ι := Nat × V × Store) (fun i => [(2, .sl 8 (l.map Cm.wntR)), (4, c4), (5, c5), (8, .ptr S.length 0 0 0), (9, .ptr (S.length + 1) 0 0 0), (25, .sl 4 (q.ps.map ptR)), (26, .int .i64 q.ps.length), (27, .int .i64 k), (13, .ptr b1 0 0 0), (80, .sl 8 (sg.map Cm.wntR)), (81, .int .i64 sg.length), (82, .int .i64 i.1)]) (fun i => i.2.2)
      (fun i => i.1 ≤ sg.length ∧ InN 49 72 S acc v [v, .sl 2 (q.tx.map chgR), .int .i64 q.fare, .int .i64 q.tot] b1 (Cm.citiesF p sg) ((sg.take i.1).map (·.s.c)) i.2.1 am w.bas i.2.2) (fun i => sg.length - i.1)
      (fun i hi => by rw [hσ]; have := hi.2.o.len; omega) (0, .nilSl, _) ⟨Nat.zero_le _, hI⟩ (.inl ⟨?_, rfl⟩) ?_
    · rw [hc4, hc5, hb1]
      simp only [Cm.tarV, Cm.frR, ptR, ↓evPre, ↓evPreW, evPost, evPostW, evR, evU, seval]
      try rfl
    clear hI hP1 hP hb1 S2 S1
    rintro ⟨i, kv, S3⟩ ⟨hi, hI⟩
    simp only at hi hI ⊢
    cases hcy : sg[i]? with
    | some x =>
      have hlt2' := (List.getElem?_eq_some_iff.1 hcy).1
      have hlt2 : ((i : Int) < sg.length) := by omega
      have hi1 : (i : Int) + 1 = ((i + 1 : Nat) : Int) := by omega
      have hI2 := hI.add [⟨0, some (.arr 84 8 [Cm.wntR x])⟩]
      have bb := hI2.bb
      have htk : (sg.take (i + 1)).map (·.s.c) = (sg.take i).map (·.s.c) ++ [x.s.c] := by rw [take_at hcy]; simp
      unfold Cm.wntR Cm.sgR at bb
      simp only [List.cons_append, List.nil_append] at bb
      simp (disch := first | omega | (simp only [lenT]; omega)) only [dT hlt2, hcy, bb, Cm.wntR, Cm.sgR, List.cons_append, List.nil_append, evSt, ↓evPre, ↓evPreW, evPost, evPostW, evR, evU, seval]
      refine hI2.app (k := x.s.c) (by simp; omega) fun kv' S4 hbb hI4 hck => ?_
      simp (disch := first | omega | (simp only [lenT]; omega)) only [hbb, hck, wrap_i64, hi1, evSt, ↓evPre, ↓evPreW, evPost, evPostW, evR, evU, seval]
      refine ⟨(i + 1, kv', _), ⟨by simp only; omega, ?_⟩, by simp only; omega, .inl ⟨by simp only [↓evPre, ↓evPreW, evPost, evPostW, evR, evU, seval]; try rfl, rfl⟩⟩
      simp only
      rw [htk]
      exact hI4
    | none =>
      have hge : sg.length ≤ i := List.getElem?_eq_none_iff.1 hcy
      have hlt2 : ¬ ((i : Int) < sg.length) := by omega
      rw [List.take_of_length_le hge] at hI
      have bb := hI.bb
      have bx := hI.o.bx
      have okk := hI.kl.cellOk
      have hos := hI.o
      simp (disch := first | omega | (simp only [lenT]; omega)) only [dF hlt2, bb, bx, okk, evSt, ↓evPre, ↓evPreW, evPost, evPostW, evR, evU, seval]
      have hI2 := hI.add [⟨0, some (.arr 72 4 [rowK (⟨Cm.citiesF p sg, sg.map (·.s.c), am, w.bas⟩, kv)])⟩]
      refine hI2.o.app (a := (⟨Cm.citiesF p sg, sg.map (·.s.c), am, w.bas⟩, kv)) (by omega) hI2.kl (fun i h1 h2 => (hI2.d1 i h2).2 h1) fun v' S4 hP4 => ?_
      have bx4 := hP4.bx
      have ck := hP4.l.cells
      simp (disch := first | omega | (simp only [lenT]; omega)) only [bx4, ck, wrap_i64, hk1, evSt, ↓evPre, ↓evPreW, evPost, evPostW, evR, evU, seval]
      refine ⟨(k + 1, acc ++ [(⟨Cm.citiesF p sg, sg.map (·.s.c), am, w.bas⟩, kv)], v', _), ⟨by simp only; omega, ?_, hP4.box [v', .sl 2 (q.tx.map chgR), .int .i64 q.fare, .int .i64 q.tot]⟩, by simp only; omega, .inl ⟨by simp only [hc4, hc5, Cm.tarV, ↓evPre, ↓evPreW, evPost, evPostW, evR, evU, seval]; try rfl, rfl⟩⟩
      simp only
      rw [List.map_append, hacc, take_at hcx, List.map_append, List.map_cons, List.map_cons, List.map_nil, List.map_nil, hio]
end Go.Proofs.YtkdbghhdklfoiaaDoor
/- Of: the reference's. -/
namespace Go.Proofs.YtkdbghhdklfoiaaDoor
open Go Go.AL Go.RowKit
set_option linter.unusedSectionVars false
variable [Go.AL.Mode] [Go.AL.LooseM]
set_option linter.unusedSimpArgs false
set_option linter.unusedVariables false
set_option maxHeartbeats 4000000 in
theorem rof_A (p : Cm.Pls) (t : Cm.Tar) (tx : List (List V)) (l : List Cm.Wnt) (q : Qt) (h : RtOk p t l q) (S : Store) : CallA Tryd.prog 11 [Cm.plV p, .agg (Cm.tarV t tx), .sl 8 (l.map Cm.wntR), .agg (qtR q)] S fun r S' => r = .agg (calR (ofF p t l q)) ∧ S' = S := by
  refine CallA.withNeat Tryd.func11 c10011 fun hn => ?_
  refine CallA.fin Tryd.func11 c10011 (Nat.le_of_ble_eq_true rfl) fun σ hσ => ?_
  have hsm := h.sml
  have n10 := h.n10
  have n20 := h.n20
  have l8 := hsm.segs
  simp (disch := first | omega | (simp only [lenT]; omega)) only [a10011, Cm.plV, Cm.tarV, qtR, evSt, ↓evPre, ↓evPreW, evPost, evPostW, evR, evU, seval]
  have h0 : OfN 45 75 S [] .nilSl [.nilSl, .sl 2 (q.tx.map chgR), .int .i64 q.fare, .int .i64 q.tot] (S ++ [⟨0, some (.arr 45 4 [[.nilSl, .nilSl, .int .i64 0, .int .i64 0]])⟩, ⟨0, some (.arr 45 4 [[.nilSl, .sl 2 (q.tx.map chgR), .int .i64 q.fare, .int .i64 q.tot]])⟩]) :=
    ⟨ob_app0.trans ob_head, by rw [ob_app, ob_cons, ob_head], .inl ⟨rfl, rfl⟩, fun a ha => (by cases ha), ⟨_, rfl⟩⟩
  obtain ⟨c7, hc7⟩ : ∃ c7, c7 = V.cptr (qtR q) := ⟨_, rfl⟩
  obtain ⟨c4, hc4⟩ : ∃ c4, c4 = V.cptr [.sl 5 (p.1.map Cm.aptR), .sl 3 (p.2.map Cm.dstR)] := ⟨_, rfl⟩
  obtain ⟨c5, hc5⟩ : ∃ c5, c5 = V.cptr (Cm.tarV t tx) := ⟨_, rfl⟩
  refine loopF (ι := Nat × List (Itm × V) × V × Store) (fun i => [(2, .sl 8 (l.map Cm.wntR)), (4, c4), (5, c5), (7, c7), (8, .ptr S.length 0 0 0), (9, .ptr (S.length + 1) 0 0 0), (10, .int .i64 i.1)]) (fun i => i.2.2.2)
    (fun i => i.1 ≤ q.ps.length ∧ i.2.1.map (·.1) = (q.ps.take i.1).map (itemOf p t l) ∧ OfN 45 75 S i.2.1 i.2.2.1 [i.2.2.1, .sl 2 (q.tx.map chgR), .int .i64 q.fare, .int .i64 q.tot] i.2.2.2) (fun i => q.ps.length - i.1)
    (fun i hi => by rw [hσ]; have := hi.2.2.len; omega) (0, [], .nilSl, _) ⟨Nat.zero_le _, rfl, h0⟩ (.inl ⟨?_, rfl⟩) ?_
  · simp only [hc4, hc5, hc7, qtR, Cm.tarV, ↓evPre, ↓evPreW, evPost, evPostW, evR, evU, seval]
    try rfl
  clear h0
  rintro ⟨k, acc, v, S1⟩ ⟨hk, hacc, hP⟩
  simp only at hk hacc hP ⊢
  have hal : acc.length ≤ 10 := by
    have := congrArg List.length hacc
    simp at this
    omega
  cases hcx : q.ps[k]? with
  | none =>
    have hge : q.ps.length ≤ k := List.getElem?_eq_none_iff.1 hcx
    have hlt : ¬ ((k : Int) < q.ps.length) := by omega
    rw [List.take_of_length_le hge] at hacc
    have b0 := hP.b0
    have bx := hP.bx
    have ok := hP.l.cellOk
    have hob := obj_set (rows' := [[v, .sl 2 (q.tx.map chgR), .int .i64 q.fare, .int .i64 q.tot]]) (ver' := 0) b0
    rw [hc7]
    simp (disch := first | omega | (simp only [lenT]; omega)) only [dF hlt, b0, bx, ok, hob, qtR, evSt, ↓evPre, ↓evPreW, evPost, evPostW, evR, evU, seval]
    unfold ofF
    rw [← hacc]
    exact of_fin hn hP q.fare q.tot _
  | some y =>
    have hlt' := (List.getElem?_eq_some_iff.1 hcx).1
    have hlt : ((k : Int) < q.ps.length) := by omega
    have hk1 : (k : Int) + 1 = ((k + 1 : Nat) : Int) := by omega
    obtain ⟨r1, r2, r3, r4, r5⟩ := h.rng y (List.mem_of_getElem? hcx)
    have hio : itemOf p t l y = ⟨Cm.citiesF p (segF l y), (segF l y).map (·.s.c), y.am, (t.fares[y.fare.toNat]?.map (·.bas)).getD []⟩ := rfl
    obtain ⟨fr, to, fa, am⟩ := y
    simp only at r1 r2 r3 r4 r5
    obtain ⟨a, rfl⟩ : ∃ a : Nat, fr = (a : Int) := ⟨fr.toNat, by omega⟩
    obtain ⟨b, rfl⟩ : ∃ b : Nat, to = (b : Int) := ⟨to.toNat, by omega⟩
    obtain ⟨f, rfl⟩ : ∃ f : Nat, fa = (f : Int) := ⟨fa.toNat, by omega⟩
    obtain ⟨w, hw⟩ : ∃ w, t.fares[f]? = some w := ⟨_, List.getElem?_eq_getElem (by omega)⟩
    unfold segF at hio
    simp only [Int.toNat_natCast, hw, Option.map_some, Option.getD_some] at hio
    have z1 : ¬ ((a : Int) < 0) := by omega
    have z2 : ¬ ((b : Int) < (a : Int)) := by omega
    have z3 : ¬ ((l.length : Int) < (b : Int)) := by omega
    have z4 : ¬ ((f : Int) < 0) := by omega
    have z5 : ¬ ((t.fares.length : Int) ≤ (f : Int)) := by omega
    obtain ⟨sg, hsg⟩ : ∃ sg, sg = (l.drop a).take (b - a) := ⟨_, rfl⟩
    have hsl : sg.length ≤ 8 := by rw [hsg, List.length_take, List.length_drop]; omega
    rw [List.drop_take, ← hsg] at hio
    have ct := fun S => Cm.rcities_A p (by have := hsm.apts; omega) sg hsl S
    simp only [Cm.plV] at ct
    have hP1 := hP.add [⟨0, some (.arr 69 4 [[.int .i64 a, .int .i64 b, .int .i64 f, .int .i64 am]])⟩]
    rw [hc4, hc5, hc7]
    simp (disch := first | omega | (simp only [lenT]; omega)) only [dT hlt, hcx, ptR, qtR, Cm.tarV, dF z1, dF z2, dF z3, dF z4, dF z5, evSt, ↓evPre, ↓evPreW, evPost, evPostW, evR, evU, seval]
    rw [if_pos ⟨r2, r3⟩, ← hsg]
    have hfr : (Cm.frR w)[3]? = some (.str w.bas) := rfl
    simp (disch := first | omega | (simp only [lenT]; omega)) only [hw, Cm.frR, evSt, ↓evPre, ↓evPreW, evPost, evPostW, evR, evU, seval]
    refine exD.intro (ct _) ?_
    generalize (S1 ++ [_] : Store) = S2 at hP1 ⊢
    have hI := hP1.start (Cm.citiesF p sg) am w.bas
    simp (disch := first | omega | (simp only [lenT]; omega)) only [evSt, ↓evPre, ↓evPreW, evPost, evPostW, evR, evU, seval]
    refine ⟨ct, ?_⟩
    obtain ⟨b1, hb1⟩ : ∃ b1, b1 = S2.length := ⟨_, rfl⟩
    rw [← hb1] at hI
    refine loopF (ι := Nat × V × Store) (fun i => [(2, .sl 8 (l.map Cm.wntR)), (4, c4), (5, c5), (7, c7), (8, .ptr S.length 0 0 0), (9, .ptr (S.length + 1) 0 0 0), (10, .int .i64 k), (12, .sl 8 (sg.map Cm.wntR)), (13, .ptr b1 0 0 0), (14, .int .i64 i.1)]) (fun i => i.2.2)
      (fun i => i.1 ≤ sg.length ∧ InN 45 75 S acc v [v, .sl 2 (q.tx.map chgR), .int .i64 q.fare, .int .i64 q.tot] b1 (Cm.citiesF p sg) ((sg.take i.1).map (·.s.c)) i.2.1 am w.bas i.2.2) (fun i => sg.length - i.1)
      (fun i hi => by rw [hσ]; have := hi.2.o.len; omega) (0, .nilSl, _) ⟨Nat.zero_le _, hI⟩ (.inl ⟨?_, rfl⟩) ?_
    · rw [hc4, hc5, hc7, hb1]
      simp only [Cm.tarV, Cm.frR, ptR, qtR, ↓evPre, ↓evPreW, evPost, evPostW, evR, evU, seval]
      try rfl
    clear hI hP1 hP hb1 S2 S1
    rintro ⟨i, kv, S3⟩ ⟨hi, hI⟩
    simp only at hi hI ⊢
    cases hcy : sg[i]? with
    | some x =>
      have hlt2' := (List.getElem?_eq_some_iff.1 hcy).1
      have hlt2 : ((i : Int) < sg.length) := by omega
      have hi1 : (i : Int) + 1 = ((i + 1 : Nat) : Int) := by omega
      have bb := hI.bb
      have htk : (sg.take (i + 1)).map (·.s.c) = (sg.take i).map (·.s.c) ++ [x.s.c] := by rw [take_at hcy]; simp
      simp (disch := first | omega | (simp only [lenT]; omega)) only [dT hlt2, hcy, bb, Cm.wntR, Cm.sgR, List.cons_append, List.nil_append, evSt, ↓evPre, ↓evPreW, evPost, evPostW, evR, evU, seval]
      refine hI.app (k := x.s.c) (by simp; omega) fun kv' S4 hbb hI4 hck => ?_
      simp (disch := first | omega | (simp only [lenT]; omega)) only [hbb, hck, wrap_i64, hi1, evSt, ↓evPre, ↓evPreW, evPost, evPostW, evR, evU, seval]
      refine ⟨(i + 1, kv', _), ⟨by simp only; omega, ?_⟩, by simp only; omega, .inl ⟨by simp only [↓evPre, ↓evPreW, evPost, evPostW, evR, evU, seval]; try rfl, rfl⟩⟩
      simp only
      rw [htk]
      exact hI4
    | none =>
      have hge : sg.length ≤ i := List.getElem?_eq_none_iff.1 hcy
      have hlt2 : ¬ ((i : Int) < sg.length) := by omega
      rw [List.take_of_length_le hge] at hI
      have bb := hI.bb
      have bx := hI.o.bx
      have okk := hI.kl.cellOk
      have hos := hI.o
      simp (disch := first | omega | (simp only [lenT]; omega)) only [dF hlt2, bb, bx, okk, evSt, ↓evPre, ↓evPreW, evPost, evPostW, evR, evU, seval]
      have hI2 := hI.add [⟨0, some (.arr 75 4 [rowK (⟨Cm.citiesF p sg, sg.map (·.s.c), am, w.bas⟩, kv)])⟩]
      refine hI2.o.app (a := (⟨Cm.citiesF p sg, sg.map (·.s.c), am, w.bas⟩, kv)) (by omega) hI2.kl (fun i h1 h2 => (hI2.d1 i h2).2 h1) fun v' S4 hP4 => ?_
      have bx4 := hP4.bx
      have ck := hP4.l.cells
      simp (disch := first | omega | (simp only [lenT]; omega)) only [bx4, ck, wrap_i64, hk1, evSt, ↓evPre, ↓evPreW, evPost, evPostW, evR, evU, seval]
      refine ⟨(k + 1, acc ++ [(⟨Cm.citiesF p sg, sg.map (·.s.c), am, w.bas⟩, kv)], v', _), ⟨by simp only; omega, ?_, hP4.box [v', .sl 2 (q.tx.map chgR), .int .i64 q.fare, .int .i64 q.tot]⟩, by simp only; omega, .inl ⟨by simp only [hc4, hc5, hc7, qtR, Cm.tarV, ↓evPre, ↓evPreW, evPost, evPostW, evR, evU, seval]; try rfl, rfl⟩⟩
      simp only
      rw [List.map_append, hacc, take_at hcx, List.map_append, List.map_cons, List.map_cons, List.map_nil, List.map_nil, hio]
end Go.Proofs.YtkdbghhdklfoiaaDoor
