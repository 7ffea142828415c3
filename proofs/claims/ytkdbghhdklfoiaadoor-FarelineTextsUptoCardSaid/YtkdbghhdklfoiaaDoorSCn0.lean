/- Component: neat stores, object by object. -/
import Derived.Test.YtkdbghhdklfoiaaDoorSAlM
import Derived.Test.YtkdbghhdklfoiaaDoorSFa7
namespace Go.Proofs.YtkdbghhdklfoiaaDoor
open Go Go.AL
set_option linter.unusedSectionVars false
variable [Go.AL.Mode] [Go.AL.LooseM]
set_option linter.unusedSimpArgs false
set_option linter.unusedVariables false
def objN (n : Nat) (o : AL.Obj) : Prop := match o.st with
  | none => True
  | some (.arr e sz rows) => ∀ r ∈ rows, r.length = sz ∧ V.allUnder n r = true
  | some (.mp m) => (∀ p ∈ m.rows, p.1.under n = true ∧ p.2.under n = true ∧ isKV m.kd p.1 = true) ∧ ∀ of p, m.x = .iter of (some p) → p.1.under n = true ∧ p.2.under n = true
theorem neat_iff {S : Store} : Neat S ↔ ∀ o ∈ S, objN S.length o := by
  constructor
  · intro h o ho
    obtain ⟨id, hid⟩ := List.getElem?_of_mem ho
    obtain ⟨ver, st⟩ := o
    cases st with
    | none => trivial
    | some ct =>
      cases ct with
      | arr e sz rows => exact h.1 id ver e sz rows hid
      | mp m => exact h.2 id ver m hid
  · intro h
    refine ⟨fun id ver e sz rows hid => ?_, fun id ver m hid => ?_⟩
    · exact h _ (List.mem_of_getElem? hid)
    · exact h _ (List.mem_of_getElem? hid)
theorem objN.self {S S1 : Store} {o : AL.Obj} (h : objN S1.length o) : objF S S1 o o.st := by
  obtain ⟨ver, st⟩ := o
  cases st with
  | none => trivial
  | some ct =>
    cases ct with
    | arr e sz rows => exact ⟨rows, rfl, .under h⟩
    | mp m =>
      refine ⟨m, rfl, .same fun of p hp => .inl (h.2 of p hp), rfl, rfl, fun p hp => (h.1 p hp).2.2, fun i p1 p h1 h2 => ?_⟩
      rw [h1] at h2
      cases h2
      obtain ⟨k1, k2, _⟩ := h.1 p1 (List.mem_of_getElem? h1)
      exact ⟨.same (.inl k1), .same (.inl k2)⟩
end Go.Proofs.YtkdbghhdklfoiaaDoor
/- The reader: an item. -/
namespace Go.Proofs.YtkdbghhdklfoiaaDoor
open Go Go.AL Go.RowKit
set_option linter.unusedSectionVars false
variable [Go.AL.Mode] [Go.AL.LooseM]
set_option linter.unusedSimpArgs false
set_option linter.unusedVariables false
def itL : Nat → Rs → List (Txt × Txt) × Rs
  | 0, s => ([], s)
  | n + 1, s =>
    if (nxF (wdF (wdF s).2).2.ws (wdF (wdF s).2).2.e).length = 2 then (((wdF s).1, (wdF (wdF s).2).1) :: (itL n (wdF (wdF s).2).2).1, (itL n (wdF (wdF s).2).2).2)
    else ([((wdF s).1, (wdF (wdF s).2).1)], (wdF (wdF s).2).2)
theorem nx_two {s : Rs} (h : (nxF s.ws s.e).length = 2) : s.e = 0 ∧ ∃ w l, s.ws = w :: l ∧ w.length = 2 := by
  unfold nxF at h
  split at h
  · rename_i he
    refine ⟨he, ?_⟩
    cases hw : s.ws with
    | nil => rw [hw] at h; simp at h
    | cons w l => rw [hw] at h; exact ⟨w, l, rfl, h⟩
  · simp at h
theorem wd_two {s : Rs} (h : (nxF s.ws s.e).length = 2) : (wdF s).2.ws.length + 1 = s.ws.length := by
  obtain ⟨h1, w, l, h2, _⟩ := nx_two h
  unfold wdF
  rw [if_pos h1, h2]
  rfl
theorem wd_ok {s : Rs} (h : (wdF s).2.e = 0) : (wdF s).2.ws.length + 1 = s.ws.length ∧ s.e = 0 := by
  unfold wdF at *
  by_cases he : s.e = 0
  · rw [if_pos he] at h ⊢
    refine ⟨?_, he⟩
    split at h
    · cases h
    · rename_i w l hw
      rw [hw]
      rfl
  · rw [if_neg he] at h
    exact absurd h he
theorem wd_two2 {s : Rs} (h : (nxF (wdF (wdF s).2).2.ws (wdF (wdF s).2).2.e).length = 2) : (wdF (wdF s).2).2.ws.length + 2 = s.ws.length := by
  have h1 := (nx_two h).1
  obtain ⟨h2, h3⟩ := wd_ok h1
  obtain ⟨h4, _⟩ := wd_ok h3
  omega
theorem wd_mem (s : Rs) : ∀ w ∈ (wdF s).2.ws, w ∈ s.ws := by
  unfold wdF
  split
  · split
    · intro w h; cases h
    · rename_i w0 l h2
      intro w h
      rw [h2]
      exact List.mem_cons_of_mem _ h
  · exact fun w h => h
theorem am_len (s : Rs) : (amF s).2.ws.length ≤ s.ws.length := by
  have := wd_len s
  unfold amF
  split <;> exact this
structure Itm where
  cs : List Txt
  ks : List Txt
  am : Int
  ba : Txt
def itmR (x : Itm) : List V := [.sl 1 (x.cs.map txR), .sl 1 (x.ks.map txR), .int .i64 x.am, .str x.ba]
def itF (city : Txt) (s : Rs) : Itm × Rs :=
  let l := itL (s.ws.length + 1) s
  let a := amF l.2
  let b := wdF a.2
  (⟨city :: l.1.map (·.2), l.1.map (·.1), a.1, b.1⟩, b.2)
def FrzAll (S S1 : Store) : List V → List V → Prop
  | [], [] => True
  | v :: vs, w :: ws => Frz S S1 v w ∧ FrzAll S S1 vs ws
  | _, _ => False
theorem FrzAll.get {S S1 : Store} : ∀ {vs ws : List V}, FrzAll S S1 vs ws → ws.length = vs.length ∧ ∀ (j : Nat) (v : V), ws[j]? = some v → ∀ x, vs[j]? = some x → Frz S S1 x v
  | [], [], _ => ⟨rfl, fun j v h => by simp at h⟩
  | [], _ :: _, h => h.elim
  | _ :: _, [], h => h.elim
  | a :: vs, b :: ws, h => by
    obtain ⟨e, k⟩ := FrzAll.get h.2
    refine ⟨by simp [e], fun j v hv x hx => ?_⟩
    cases j with
    | zero => simp only [List.getElem?_cons_zero, Option.some.injEq] at hv hx; subst hv; subst hx; exact h.1
    | succ j => simp only [List.getElem?_cons_succ] at hv hx; exact k j v hv x hx
theorem frz_agg {S S1 : Store} {vs ws : List V} (h : FrzAll S S1 vs ws) : Frz S S1 (.agg vs) (.agg ws) := .agg h.get.1 h.get.2
theorem neat_set {S : Store} {id ver sz : Nat} {t : TypeId} {rows : List (List V)} (h : Neat S) (hr : ∀ r ∈ rows, r.length = sz ∧ V.allImm r = true) : Neat (S.set id ⟨ver, some (.arr t sz rows)⟩) := by
  rw [neat_iff] at h ⊢
  intro o ho
  rw [List.length_set]
  rcases List.mem_or_eq_of_mem_set ho with ho | rfl
  · exact h o ho
  · exact fun r hr' => ⟨(hr r hr').1, allImm_under _ (hr r hr').2⟩
theorem Lst.cellOk {lo : Nat} {S : Store} {q : TypeId} {sz : Nat} {rows : List (List V)} {v : V} (h : Lst lo S q sz rows v) : v.cellOk = true := by
  rcases h with ⟨rfl, rfl⟩ | ⟨c, ver, h1, rfl, h3⟩ <;> rfl
theorem Lst.frz {lo : Nat} {S S1 : Store} {q : TypeId} {sz : Nat} {rows : List (List V)} {v : V} (h : Lst lo S q sz rows v) (hl : S1.length ≤ lo) (hr : ∀ r ∈ rows, r.length = sz ∧ V.allImm r = true) : Frz S S1 v (.sl sz rows) := by
  rcases h with ⟨rfl, rfl⟩ | ⟨c, ver, h1, rfl, h3⟩
  · exact .nil
  · exact .sl (by omega) h3 rfl hr
structure ItS (S : Store) (p : Nat) (rc rk : List Txt) (s : Rs) (cv kv : V) (row : List V) (S1 : Store) : Prop where
  hp : p < S.length
  rd : Rd S1 p s.ws s.e
  b0 : S1.obj? S.length 0 = some (72, 4, [[.nilSl, .nilSl, .int .i64 0, .str []]])
  bx : S1.obj? (S.length + 2) 0 = some (72, 4, [row])
  cs : Lst (S.length + 1) S1 9 1 (rc.map txR) cv
  ks : Lst (S.length + 1) S1 9 1 (rk.map txR) kv
  d1 : ∀ i, idOf cv i → i ≠ S.length + 2
  d2 : ∀ i, idOf kv i → i ≠ S.length + 2
  d3 : ∀ i, idOf cv i → ¬ idOf kv i
  ext : ∃ T, S1 = S.set p (rdO s.ws s.e) ++ T
section
variable {S : Store} {p : Nat} {rc rk : List Txt} {s : Rs} {cv kv : V} {row : List V} {S1 : Store}
theorem ItS.len (h : ItS S p rc rk s cv kv row S1) : S.length + 3 ≤ S1.length := by
  have := obj_lt h.bx
  omega
theorem frm_set (S1 : Store) (b : Nat) (o : Go.AL.Obj) : Frm (fun i => i = b) S1 (S1.set b o) := (Frm.refl (fun i => i = b) S1).set (fun _ => rfl) o
theorem ItS.word (h : ItS S p rc rk s cv kv row S1) (s' : Rs) : ItS S p rc rk s' cv kv row (S1.set p (rdO s'.ws s'.e)) := by
  have hp := h.hp
  have f := frm_set S1 p (rdO s'.ws s'.e)
  refine ⟨hp, h.rd.set _ _, f.obj h.b0 (by omega), f.obj h.bx (by omega), h.cs.frm f fun i hi => ?_, h.ks.frm f fun i hi => ?_, h.d1, h.d2, h.d3, ?_⟩
  · have := (h.cs.lt hi).2; omega
  · have := (h.ks.lt hi).2; omega
  · obtain ⟨T, hT⟩ := h.ext
    exact ⟨T, by rw [hT, List.set_append_left _ _ (by simpa using hp), List.set_set]⟩
theorem ItS.box (h : ItS S p rc rk s cv kv row S1) (row2 : List V) : ItS S p rc rk s cv kv row2 (S1.set (S.length + 2) ⟨0, some (.arr 72 4 [row2])⟩) := by
  have hp := h.hp
  have f := frm_set S1 (S.length + 2) ⟨0, some (.arr 72 4 [row2])⟩
  refine ⟨hp, f.obj h.rd (by omega), f.obj h.b0 (by omega), obj_set h.bx, h.cs.frm f fun i hi => h.d1 i hi, h.ks.frm f fun i hi => h.d2 i hi, h.d1, h.d2, h.d3, ?_⟩
  obtain ⟨T, hT⟩ := h.ext
  exact ⟨_, by rw [hT, List.set_append_right _ _ (by simp)]⟩
theorem ItS.appK (h : ItS S p rc rk s cv kv row S1) {w : Txt} {K : V → Store → Prop} (hl : rk.length ≤ 1000000) (k : ∀ v' S2, ItS S p rc (rk ++ [w]) s cv v' row S2 → K v' S2) : appK 9 1 kv (some (1, [[.str w]])) S1 K := by
  have hp := h.hp
  have hln := h.len
  refine h.ks.app (by omega) (by simpa using hl) fun v' S2 k2 f2 i2 => k v' S2 ⟨hp, f2.obj h.rd (fun hi => by have := (h.ks.lt hi).2; omega), f2.obj h.b0 (fun hi => by have := (h.ks.lt hi).2; omega), f2.obj h.bx (fun hi => h.d2 _ hi rfl), h.cs.frm f2 (fun i hi hk => h.d3 i hi hk), ?_, h.d1, fun i hi => ?_, fun i hi hj => ?_, ?_⟩
  · rw [List.map_append]; exact k2
  · rcases i2 i hi with hi | hi
    · exact h.d2 i hi
    · omega
  · rcases i2 i hj with hj | hj
    · exact h.d3 i hi hj
    · have := (h.cs.lt hi).1; omega
  · exact f2.ext h.ext fun i hi => by have := (h.ks.lt hi).2; simp; omega
theorem ItS.appC (h : ItS S p rc rk s cv kv row S1) {w : Txt} {K : V → Store → Prop} (hl : rc.length ≤ 1000000) (k : ∀ v' S2, ItS S p (rc ++ [w]) rk s v' kv row S2 → K v' S2) : AL.appK 9 1 cv (some (1, [[.str w]])) S1 K := by
  have hp := h.hp
  have hln := h.len
  refine h.cs.app (by omega) (by simpa using hl) fun v' S2 k2 f2 i2 => k v' S2 ⟨hp, f2.obj h.rd (fun hi => by have := (h.cs.lt hi).2; omega), f2.obj h.b0 (fun hi => by have := (h.cs.lt hi).2; omega), f2.obj h.bx (fun hi => h.d1 _ hi rfl), ?_, h.ks.frm f2 (fun i hi hk => h.d3 i hk hi), fun i hi => ?_, h.d2, fun i hi hj => ?_, ?_⟩
  · rw [List.map_append]; exact k2
  · rcases i2 i hi with hi | hi
    · exact h.d1 i hi
    · omega
  · rcases i2 i hi with hi | hi
    · exact h.d3 i hi hj
    · have := (h.ks.lt hj).1; omega
  · exact f2.ext h.ext fun i hi => by have := (h.cs.lt hi).2; simp; omega
end
theorem item_end {S : Store} {p : Nat} {rc rk : List Txt} {s : Rs} {cv kv : V} {row : List V} {S1 : Store} (hn : Neat S) (hP : ItS S p rc rk s cv kv row S1) (am : Int) (ba : Txt) :
    ∃ r1 S2, Fgt (S1.set S.length ⟨0, some (.arr 72 4 [[cv, kv, .int .i64 am, .str ba]])⟩) S2 ∧ Frz (S1.set S.length ⟨0, some (.arr 72 4 [[cv, kv, .int .i64 am, .str ba]])⟩) S2 (.agg [cv, kv, .int .i64 am, .str ba]) r1 ∧ S.length ≤ S2.length ∧ r1 = .agg (itmR ⟨rc, rk, am, ba⟩) ∧ S2 = S.set p (rdO s.ws s.e) := by
  have f := frm_set S1 S.length ⟨0, some (.arr 72 4 [[cv, kv, .int .i64 am, .str ba]])⟩
  have hc8 := hP.cs.frm f fun i hi => by have := (hP.cs.lt hi).2; omega
  have hk8 := hP.ks.frm f fun i hi => by have := (hP.ks.lt hi).2; omega
  obtain ⟨T, hT⟩ := hP.ext
  refine ⟨_, S.set p (rdO s.ws s.e), ?_, frz_agg (show FrzAll _ _ _ (itmR ⟨rc, rk, am, ba⟩) from ⟨hc8.frz (by simp) (tx_imm rc), hk8.frz (by simp) (tx_imm rk), .imm rfl, .imm rfl, trivial⟩), by simp, rfl, rfl⟩
  have hn2 : Neat (S.set p (rdO s.ws s.e)) := neat_set hn fun r hr => by
    simp only [List.mem_singleton] at hr
    subst hr
    exact ⟨rfl, rfl⟩
  rw [hT, show S.length = (S.set p (rdO s.ws s.e)).length + 0 by simp, List.set_append_right _ _ (by simp)]
  exact hn2.fgt _
set_option maxHeartbeats 2000000 in
theorem item_A {S : Store} {p : Nat} {ws : List Txt} {e : Int} (city : Txt) (h : Rd S p ws e) (hl : ws.length ≤ 500000) (hw : ∀ w ∈ ws, w.length ≤ 1000000000) :
    CallA Tryd.prog 34 [.ptr p 0 0 0, .str city] S fun r S' => r = .agg (itmR (itF city ⟨ws, e⟩).1) ∧ S' = S.set p (rdO (itF city ⟨ws, e⟩).2.ws (itF city ⟨ws, e⟩).2.e) := by
  refine CallA.withNeat Tryd.func34 c10034 fun hn => ?_
  refine CallA.fin Tryd.func34 c10034 (Nat.le_of_ble_eq_true rfl) fun σ hσ => ?_
  have hpl := h.lt
  simp (disch := first | omega | (simp only [lenT]; omega)) only [a10034, evSt, ↓evPre, ↓evPreW, evPost, evPostW, evR, evU, seval]
  have h0 : ItS S p [city] [] ⟨ws, e⟩ (.msl (S.length + 1) 0 0 1) .nilSl [.msl (S.length + 1) 0 0 1, .nilSl, .int .i64 0, .str []] (S ++ [⟨0, some (.arr 72 4 [[.nilSl, .nilSl, .int .i64 0, .str []]])⟩, ⟨0, some (.arr 9 1 [[.str city]])⟩, ⟨0, some (.arr 72 4 [[.msl (S.length + 1) 0 0 1, .nilSl, .int .i64 0, .str []]])⟩]) := by
    refine ⟨hpl, obj_add h, ob_app0.trans ob_head, by rw [ob_app, ob_cons, ob_cons, ob_head], .inr ⟨S.length + 1, 0, Nat.le_refl _, rfl, by rw [ob_app, ob_cons, ob_head]; rfl⟩, .inl ⟨rfl, rfl⟩, ?_, ?_, ?_, ⟨_, by rw [set_same h.at]⟩⟩
    · rintro i ⟨_, _, _, hi⟩; cases hi; omega
    · rintro i ⟨_, _, _, hi⟩; cases hi
    · rintro i _ ⟨_, _, _, hi⟩; cases hi
  refine loopF (ι := List (Txt × Txt) × Nat × Rs × V × V × Store) (fun i => [(0, .ptr p 0 0 0), (4, .ptr S.length 0 0 0), (5, .ptr (S.length + 2) 0 0 0)]) (fun i => i.2.2.2.2.2)
    (fun i => ItS S p (city :: i.1.map (·.2)) (i.1.map (·.1)) i.2.2.1 i.2.2.2.1 i.2.2.2.2.1 [i.2.2.2.1, i.2.2.2.2.1, .int .i64 0, .str []] i.2.2.2.2.2 ∧ (∀ w ∈ i.2.2.1.ws, w ∈ ws) ∧ i.2.2.1.ws.length < i.2.1 ∧ i.1.length + i.2.1 ≤ ws.length + 1 ∧ itL (ws.length + 1) ⟨ws, e⟩ = (i.1 ++ (itL i.2.1 i.2.2.1).1, (itL i.2.1 i.2.2.1).2))
    (fun i => i.2.1) (fun i hi => by rw [hσ]; have := hi.1.len; omega) ([], ws.length + 1, ⟨ws, e⟩, .msl (S.length + 1) 0 0 1, .nilSl, _) ⟨h0, fun w hw => hw, by simp, by simp, rfl⟩ (.inl ⟨?_, rfl⟩) ?_
  · simp only [↓evPre, ↓evPreW, evPost, evPostW, evR, evU, seval]
    try rfl
  rintro ⟨acc, n, s, cv, kv, S1⟩ ⟨hI, hms, hn1, hn2, hit⟩
  simp only at hI hms hn1 hn2 hit ⊢
  have hsl : s.ws.length ≤ 1000000 := by omega
  have hal : acc.length ≤ 500000 := by omega
  have bx1 := hI.bx
  refine stageA (fun E S' => E.get 0 = .ptr p 0 0 0 ∧ E.get 4 = .ptr S.length 0 0 0 ∧ E.get 5 = .ptr (S.length + 2) 0 0 0 ∧ ∃ kv', ItS S p (city :: acc.map (·.2)) (acc.map (·.1) ++ [(wdF s).1]) (wdF s).2 cv kv' [cv, kv', .int .i64 0, .str []] S') ?_ ?_
  · intro K hK
    have hI2 := hI.word (wdF s).2
    have bx2 := hI2.bx
    simp (disch := first | omega | (simp only [lenT]; omega)) only [bx1, evSt, ↓evPre, ↓evPreW, evPost, evPostW, evR, evU, seval]
    refine ⟨⟨?_, ?_⟩, ?_⟩
    all_goals
      refine (word_A hI.rd (by omega)).mono ?_
      rintro r S2 ⟨rfl, rfl⟩
      simp (disch := first | omega | (simp only [lenT]; omega)) only [bx1, bx2, evSt, ↓evPre, ↓evPreW, evPost, evPostW, evR, evU, seval]
      refine hI2.appK (by simp; omega) fun kv' S3 h3 => ?_
      have bx3 := h3.bx
      have ck := h3.ks.cells
      simp (disch := first | omega | (simp only [lenT]; omega)) only [bx3, ck, evSt, ↓evPre, ↓evPreW, evPost, evPostW, evR, evU, seval]
      exact hK _ _ ⟨rfl, rfl, rfl, kv', h3.box [cv, kv', .int .i64 0, .str []]⟩
  rintro E1 S2 ⟨e0, e4, e5, kv', hJ⟩
  have hl1 := wd_len s
  have bx2 := hJ.bx
  refine stageA (fun E S' => E.get 0 = .ptr p 0 0 0 ∧ E.get 4 = .ptr S.length 0 0 0 ∧ E.get 5 = .ptr (S.length + 2) 0 0 0 ∧ ∃ cv', ItS S p (city :: acc.map (·.2) ++ [(wdF (wdF s).2).1]) (acc.map (·.1) ++ [(wdF s).1]) (wdF (wdF s).2).2 cv' kv' [cv', kv', .int .i64 0, .str []] S') ?_ ?_
  · intro K hK
    have hI2 := hJ.word (wdF (wdF s).2).2
    have bx3 := hI2.bx
    simp (disch := first | omega | (simp only [lenT]; omega)) only [e0, e4, e5, bx2, evSt, ↓evPre, ↓evPreW, evPost, evPostW, evR, evU, seval]
    refine ⟨⟨?_, ?_⟩, ?_⟩
    all_goals
      refine (word_A hJ.rd (by omega)).mono ?_
      rintro r S3 ⟨rfl, rfl⟩
      simp (disch := first | omega | (simp only [lenT]; omega)) only [e0, e4, e5, bx2, bx3, evSt, ↓evPre, ↓evPreW, evPost, evPostW, evR, evU, seval]
      refine hI2.appC (by simp; omega) fun cv' S4 h4 => ?_
      have bx4 := h4.bx
      have ck := h4.cs.cells
      simp (disch := first | omega | (simp only [lenT]; omega)) only [e0, e4, e5, bx4, ck, evSt, ↓evPre, ↓evPreW, evPost, evPostW, evR, evU, seval]
      exact hK _ _ ⟨e0, e4, e5, cv', h4.box [cv', kv', .int .i64 0, .str []]⟩
  clear e0 e4 e5
  rintro E2 S3 ⟨e0, e4, e5, cv', hL⟩
  have hl2 := wd_len (wdF s).2
  obtain ⟨m, rfl⟩ : ∃ m, n = m + 1 := ⟨n - 1, by omega⟩
  simp (disch := first | omega | (simp only [lenT]; omega)) only [e0, e4, e5, evSt, ↓evPre, ↓evPreW, evPost, evPostW, evR, evU, seval]
  refine (next_A hL.rd).then ?_
  by_cases h2 : (nxF (wdF (wdF s).2).2.ws (wdF (wdF s).2).2.e).length = 2
  · have hl3 := wd_two2 h2
    have h2' : ((nxF (wdF (wdF s).2).2.ws (wdF (wdF s).2).2.e).length : Int) = 2 := by omega
    rw [show itL (m + 1) s = _ from if_pos h2] at hit
    simp (disch := first | omega | (simp only [lenT]; omega)) only [e0, e4, e5, h2', evSt, ↓evPre, ↓evPreW, evPost, evPostW, evR, evU, seval]
    refine ⟨(acc ++ [((wdF s).1, (wdF (wdF s).2).1)], m, (wdF (wdF s).2).2, cv', kv', S3), ⟨?_, fun w hw => hms w (wd_mem _ w (wd_mem _ w hw)), by simp only; omega, by simp; omega, by simp only [List.append_assoc, List.singleton_append]; exact hit⟩, by simp only; omega, .inl ⟨?_, rfl⟩⟩
    · simp only [List.map_append, List.map_cons, List.map_nil]
      exact hL
    · exact ⟨e0, e4, e5, trivial⟩
  · have h2' : ¬ ((nxF (wdF (wdF s).2).2.ws (wdF (wdF s).2).2.e).length : Int) = 2 := by omega
    rw [show itL (m + 1) s = _ from if_neg h2] at hit
    simp (disch := first | omega | (simp only [lenT]; omega)) only [e0, e4, e5, dF h2', evSt, ↓evPre, ↓evPreW, evPost, evPostW, evR, evU, seval]
    have hitF : itF city ⟨ws, e⟩ = (⟨city :: acc.map (·.2) ++ [(wdF (wdF s).2).1], acc.map (·.1) ++ [(wdF s).1], (amF (wdF (wdF s).2).2).1, (wdF (amF (wdF (wdF s).2).2).2).1⟩, (wdF (amF (wdF (wdF s).2).2).2).2) := by
      unfold itF
      simp only [hit, List.map_append, List.map_cons, List.map_nil, List.cons_append]
    rw [hitF]
    clear hitF hit
    generalize hrc : city :: acc.map (·.2) ++ [(wdF (wdF s).2).1] = rc at *
    generalize hrk : acc.map (·.1) ++ [(wdF s).1] = rk at *
    have hw2 : ∀ w ∈ (wdF (wdF s).2).2.ws, w.length ≤ 1000000000 := fun w h => hw w (hms w (wd_mem _ w (wd_mem _ w h)))
    generalize (wdF (wdF s).2).2 = s2 at *
    have hM := hL.word (amF s2).2
    refine (amount_A hL.rd (by omega) hw2).mono ?_
    rintro r S4 ⟨rfl, rfl⟩
    have hla := am_len s2
    have bxM := hM.bx
    have hN := hM.box [cv', kv', .int .i64 (amF s2).1, .str []]
    simp (disch := first | omega | (simp only [lenT]; omega)) only [e0, e4, e5, bxM, evSt, ↓evPre, ↓evPreW, evPost, evPostW, evR, evU, seval]
    refine (word_A hN.rd (by omega)).mono ?_
    rintro r S5 ⟨rfl, rfl⟩
    have hO := hN.word (wdF (amF s2).2).2
    have bxO := hO.bx
    have hP := hO.box [cv', kv', .int .i64 (amF s2).1, .str (wdF (amF s2).2).1]
    have bxP := hP.bx
    have b0P := hP.b0
    have ok1 := hP.cs.cellOk
    have ok2 := hP.ks.cellOk
    have hob := obj_set (rows' := [[cv', kv', .int .i64 (amF s2).1, .str (wdF (amF s2).2).1]]) (ver' := 0) b0P
    simp (disch := first | omega | (simp only [lenT]; omega)) only [e0, e4, e5, bxO, bxP, b0P, ok1, ok2, hob, evSt, ↓evPre, ↓evPreW, evPost, evPostW, evR, evU, seval]
    exact item_end hn hP _ _
end Go.Proofs.YtkdbghhdklfoiaaDoor
