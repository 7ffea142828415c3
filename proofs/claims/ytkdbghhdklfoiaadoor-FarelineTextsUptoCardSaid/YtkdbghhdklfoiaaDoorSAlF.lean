/- Forgetting and freezing: objects that are owned no more; their slices and pointers are pure data from then on. -/
import Derived.Test.YtkdbghhdklfoiaaDoorSAl8
namespace Go.AL
set_option linter.unusedSectionVars false
variable [Mode]
set_option linter.unusedSimpArgs false
set_option linter.unusedVariables false
def dead (S1 : Store) (id : Nat) : Prop := ∀ o, S1[id]? = some o → o.st = none
inductive Frz (S S1 : Store) : V → V → Prop
  | same {v : V} (h : v.under S1.length = true ∨ S.length ≤ S1.length) : Frz S S1 v v
  | msl {id ver off len sz : Nat} {t : TypeId} {rows rows' : List (List V)} (hd : dead S1 id) (ho : S.obj? id ver = some (t, sz, rows)) (h0 : off = 0 ∨ 0 < len) (hl : rows'.length = len)
      (hr : ∀ (i : Nat) (r : List V), rows'[i]? = some r → r.length = sz)
      (hc : ∀ (i : Nat) (r : List V), rows'[i]? = some r → ∀ (j : Nat) (v : V), r[j]? = some v → ∀ (q : List V) (x : V), rows[off + i]? = some q → q[j]? = some x → Frz S S1 x v)
      (him : ∀ (i : Nat) (r : List V), rows'[i]? = some r → ∀ (j : Nat) (v : V), r[j]? = some v → v.isImm = true) : Frz S S1 (.msl id ver off len) (.sl sz rows')
  | ptr {id ver row off sz : Nat} {t : TypeId} {rows : List (List V)} {q cells : List V} (hd : dead S1 id) (ho : S.obj? id ver = some (t, sz, rows)) (hq : rows[row]? = some q) (hl : cells.length + off ≤ q.length)
      (hc : ∀ (j : Nat) (v : V), cells[j]? = some v → ∀ x, q[off + j]? = some x → Frz S S1 x v)
      (him : ∀ (j : Nat) (v : V), cells[j]? = some v → v.isImm = true) : Frz S S1 (.ptr id ver row off) (.cptr cells)
  | agg {vs ws : List V} (hl : ws.length = vs.length) (hc : ∀ (j : Nat) (v : V), ws[j]? = some v → ∀ x, vs[j]? = some x → Frz S S1 x v) : Frz S S1 (.agg vs) (.agg ws)
  | tup {vs ws : List V} (hl : ws.length = vs.length) (hc : ∀ (j : Nat) (v : V), ws[j]? = some v → ∀ x, vs[j]? = some x → Frz S S1 x v) : Frz S S1 (.tup vs) (.tup ws)
  | iface {t : TypeId} {v v' : V} (h : Frz S S1 v v') : Frz S S1 (.iface t v) (.iface t v')
  | nil {sz : Nat} : Frz S S1 .nilSl (.sl sz [])
def XF (S S1 : Store) : MX → MX → Prop
  | x, .free => x.isIt = false
  | .held i, .held j => i = j
  | .opened j n, .opened j' n' => j = j' ∧ n = n'
  | .iter of c, .iter of' c' => of = of' ∧ ∀ p', c' = some p' → ∃ p, c = some p ∧ Frz S S1 p.1 p'.1 ∧ Frz S S1 p.2 p'.2
  | _, _ => False
theorem XF.isIt {S S1 : Store} {x x1 : MX} (h : XF S S1 x x1) : x.isIt = x1.isIt := by
  cases x <;> cases x1 <;> first | rfl | exact h.elim | exact h
theorem XF.same {S S1 : Store} {x : MX} (h : ∀ of p, x = .iter of (some p) → (p.1.under S1.length = true ∧ p.2.under S1.length = true) ∨ S.length ≤ S1.length) : XF S S1 x x := by
  cases x with
  | free => rfl
  | held i => rfl
  | opened j n => exact ⟨rfl, rfl⟩
  | iter of c =>
    refine ⟨rfl, fun p hp => ⟨p, hp, ?_⟩⟩
    subst hp
    rcases h of p rfl with ⟨h1, h2⟩ | h
    · exact ⟨.same (.inl h1), .same (.inl h2)⟩
    · exact ⟨.same (.inr h), .same (.inr h)⟩
structure Fgt (S S1 : Store) : Prop where
  len : S1.length ≤ S.length
  obj : ∀ (id : Nat) (o1 : Obj), S1[id]? = some o1 → ∃ o, S[id]? = some o ∧ o.ver = o1.ver ∧
    ∀ (t : TypeId) (sz : Nat) (rows1 : List (List V)), o1.st = some (.arr t sz rows1) → ∃ rows, o.st = some (.arr t sz rows) ∧ rows1.length = rows.length ∧ (∀ (i : Nat) (r1 : List V), rows1[i]? = some r1 → r1.length = sz) ∧
      ∀ (i : Nat) (r1 : List V), rows1[i]? = some r1 → ∀ (j : Nat) (v1 : V), r1[j]? = some v1 → ∀ (r : List V) (x : V), rows[i]? = some r → r[j]? = some x → Frz S S1 x v1
  objM : ∀ (id : Nat) (o1 : Obj), S1[id]? = some o1 → ∀ (m1 : MapC), o1.st = some (.mp m1) → ∃ o m, S[id]? = some o ∧ o.ver = o1.ver ∧ o.st = some (.mp m) ∧ XF S S1 m.x m1.x ∧ m1.kd = m.kd ∧ m1.rows.length = m.rows.length ∧ (∀ p ∈ m1.rows, isKV m1.kd p.1 = true) ∧
    ∀ (i : Nat) (p1 p : V × V), m1.rows[i]? = some p1 → m.rows[i]? = some p → Frz S S1 p.1 p1.1 ∧ Frz S S1 p.2 p1.2
section
variable {ρ : Place} {S S1 : Store} {w : World}
theorem Fgt.alive (h : Fgt S S1) {id : Nat} {o1 : Obj} {c : Cont} (h1 : S1[id]? = some o1) (hc : o1.st = some c) : ∃ o c0, S[id]? = some o ∧ o.st = some c0 ∧ o.ver = o1.ver := by
  cases c with
  | arr t sz rows1 =>
    obtain ⟨o, h2, h3, h4⟩ := h.obj id o1 h1
    obtain ⟨rows, h5, _⟩ := h4 t sz rows1 hc
    exact ⟨o, _, h2, h5, h3⟩
  | mp rows1 =>
    obtain ⟨o, rows, h2, h3, h4, _⟩ := h.objM id o1 h1 rows1 hc
    exact ⟨o, _, h2, h4, h3⟩
theorem Fgt.un (h : Fgt S S1) : ∀ g, Unowned ρ S w g → Unowned ρ S1 w g ∧ w.heap[g]? = w.heap[g]? := fun g ⟨a, b⟩ =>
  ⟨⟨a, fun id o c g' tot ho hst hr => by
    obtain ⟨o0, c0, h1, h2, _⟩ := h.alive ho hst
    exact b id o0 c0 g' tot h1 h2 hr⟩, rfl⟩
theorem Fgt.freed (h : Fgt S S1) (hi : Inv ρ S w) {id ver sz g tot : Nat} {t : TypeId} {rows : List (List V)} (hd : dead S1 id) (hs : S[id]? = some ⟨ver, some (.arr t sz rows)⟩) (hr : ρ id = some (g, tot)) : Unowned ρ S1 w g := by
  obtain ⟨cur, _, _, hh, _⟩ := hi.obj hs hr
  refine ⟨(Array.getElem?_eq_some_iff.1 hh).1, fun k o c g' tot' ho hst hk hg => ?_⟩
  subst hg
  obtain ⟨o0, c0, h1, h2, _⟩ := h.alive ho hst
  have := hi.inj k id o0 _ c0 _ g' tot' tot h1 hs h2 rfl hk hr
  subst this
  rw [hd o ho] at hst
  cases hst
theorem VR.forget (h : Fgt S S1) {b : Bool} {v : V} {u : Value} (hv : VR ρ S w b v u) : v.under S1.length = true ∨ S.length ≤ S1.length → VR ρ S1 w b v u := by
  have key : ∀ {id ver : Nat}, (∀ (o : Obj), S[id]? = some o → ver ≤ o.ver) → ∀ (o : Obj), S1[id]? = some o → ver ≤ o.ver := by
    intro id ver hver o ho
    obtain ⟨o0, h1, h2, _⟩ := h.obj id o ho
    rw [← h2]
    exact hver o0 h1
  have key2 : ∀ {id ver sz : Nat} {e : TypeId} {rows1 : List (List V)}, S1[id]? = some ⟨ver, some (.arr e sz rows1)⟩ → ∃ rows, S[id]? = some ⟨ver, some (.arr e sz rows)⟩ ∧ rows1.length = rows.length := by
    intro id ver sz e rows1 hs
    obtain ⟨⟨v0, st0⟩, h1, h2, h3⟩ := h.obj id _ hs
    obtain ⟨rows, h4, h5, _⟩ := h3 e sz rows1 rfl
    simp only at h2 h4
    subst h2 h4
    exact ⟨rows, h1, h5⟩
  have key3 : ∀ {id ver : Nat} {rows1 : MapC}, S1[id]? = some ⟨ver, some (.mp rows1)⟩ → ∃ rows, S[id]? = some ⟨ver, some (.mp rows)⟩ ∧ rows.x.isIt = rows1.x.isIt := by
    intro id ver rows1 hs
    obtain ⟨⟨v0, st0⟩, rows, h1, h2, h3, hxf, _⟩ := h.objM id _ hs rows1 rfl
    simp only at h2 h3
    subst h2 h3
    exact ⟨rows, h1, hxf.isIt⟩
  have ids : ∀ {id : Nat}, id < S.length → (decide (id < S1.length) = true ∨ S.length ≤ S1.length) → id < S1.length := fun hlt hh => by
    rcases hh with hh | hh
    · exact of_decide_eq_true hh
    · omega
  have all : ∀ {vs : List V}, V.allUnder S1.length vs = true ∨ S.length ≤ S1.length → ∀ (j : Nat) (v : V), vs[j]? = some v → v.under S1.length = true ∨ S.length ≤ S1.length := fun hh j v hj => by
    rcases hh with hh | hh
    · exact .inl (V.allUnder_get hh j v hj)
    · exact .inr hh
  induction hv with
  | undef => exact fun _ => .undef
  | skipped => exact fun _ => .skipped
  | int => exact fun _ => .int
  | bool => exact fun _ => .bool
  | str h1 h2 => exact fun _ => .str h1 h2
  | nilSl => exact fun _ => .nilSl
  | slNil => exact fun _ => .slNil
  | sl c hu hlen hcap hmax hsz hc hv h1 ih =>
    exact fun _ => .sl c (h.un _ hu).1 hlen hcap hmax hsz hc (fun i r hi j v hj => (hv i r hi j v hj).imm h.un rfl true) h1
  | msl hlt hver hh h1 =>
    intro hb
    refine .msl (ids hlt hb) (key hver) (fun e sz rows hs => ?_) h1
    obtain ⟨rows0, h2, h3⟩ := key2 hs
    rw [h3]
    exact hh e sz rows0 h2
  | nilPtr => exact fun _ => .nilPtr
  | cptr c hu hc hv h1 ih => exact fun _ => .cptr c (h.un _ hu).1 hc (fun j v hj => (hv j v hj).imm h.un rfl true) h1
  | ptr hlt hver hh h1 =>
    intro hb
    refine .ptr (ids hlt hb) (key hver) (fun e sz rows hs => ?_) h1
    obtain ⟨rows0, h2, h3⟩ := key2 hs
    exact hh e sz rows0 h2
  | func c d hl hm hc hv hd hw ih1 ih2 =>
    intro hb
    have h1 : V.allUnder S1.length _ = true ∨ S.length ≤ S1.length := hb.imp (fun hb => (Bool.and_eq_true_iff.1 hb).1) id
    have h2 : V.allUnder S1.length _ = true ∨ S.length ≤ S1.length := hb.imp (fun hb => (Bool.and_eq_true_iff.1 hb).2) id
    exact .func c d hl hm hc (fun j v hj => ih1 j v hj (all h1 j v hj)) hd (fun j v hj => ih2 j v hj (all h2 j v hj))
  | nilFn => exact fun _ => .nilFn
  | iface h ih => exact fun hb => .iface (ih hb)
  | nilIface => exact fun _ => .nilIface
  | agg c hl hc hv ih => exact fun hb => .agg c hl hc fun j v hj => ih j v hj (all hb j v hj)
  | tup c hl hc hv ih => exact fun hb => .tup c hl hc fun j v hj => ih j v hj (all hb j v hj)
  | nilMap => exact fun _ => .nilMap
  | mapv hlt hver hh h1 =>
    intro hb
    refine .mapv (ids hlt hb) (key hver) (fun rows hs => ?_) h1
    obtain ⟨rows0, h2, hit⟩ := key3 hs
    have := hh rows0 h2
    unfold MapC.addr at this ⊢
    rwa [hit] at this
theorem Frz.rel (h : Fgt S S1) (hi : Inv ρ S w) {v v1 : V} (hf : Frz S S1 v v1) : ∀ {u : Value}, VR ρ S w false v u → VR ρ S1 w false v1 u := by
  induction hf with
  | same hs => exact fun hv => hv.forget h hs
  | @msl id ver off len sz t rows rows' hd ho h0 hl hr hc him ih =>
    intro u hv
    obtain ⟨h1, h2⟩ := hv.msl_inv ho
    have hs := obj_some ho
    rcases h2 with ⟨_, rfl, rfl, rfl⟩ | ⟨g, tot, cap, hp, rfl, htot, hlc, hct⟩ | ⟨ha, hb, _⟩
    · have : rows' = [] := List.length_eq_zero_iff.1 hl
      subst this
      exact .slNil
    · obtain ⟨cur, a1, a2, a3, a4, a5, a6⟩ := hi.obj hs hp
      have cell : ∀ (i : Nat) (r : List V), rows'[i]? = some r → ∀ (j : Nat) (v : V), r[j]? = some v → ∃ x, w.cell? ⟨g, off * sz + (i * sz + j), none⟩ = some x ∧ VR ρ S1 w false v x ∧ x.oneCell' = true := by
        intro i r hir j v hj
        have hlt : i < len := by rw [← hl]; exact (List.getElem?_eq_some_iff.1 hir).1
        have hq : rows[off + i]? = some rows[off + i] := List.getElem?_eq_getElem (by omega)
        have hjl : j < sz := by rw [← hr i r hir]; exact (List.getElem?_eq_some_iff.1 hj).1
        have hql := a5 _ _ hq
        have hx : (rows[off + i])[j]? = some (rows[off + i])[j] := List.getElem?_eq_getElem (by omega)
        obtain ⟨x, b1, b2, b3⟩ := a6 _ _ hq j _ hx
        refine ⟨x, ?_, ih i r hir j v hj _ _ hq hx b2, b3⟩
        have : off * sz + (i * sz + j) = (off + i) * sz + j := by rw [Nat.add_mul]; omega
        simp [World.cell?, a3, this, b1]
      exact .sl (fun i j => (w.cell? ⟨g, off * sz + (i * sz + j), none⟩).getD Go.undef) (h.freed hi hd hs hp) hl.symm (by omega) (by omega) hr
        (fun i r hir j v hj => by obtain ⟨x, c1, _⟩ := cell i r hir j v hj; simp [c1])
        (fun i r hir j v hj => by obtain ⟨x, c1, c2, _⟩ := cell i r hir j v hj; simpa [c1] using c2.toImm (him i r hir j v hj) true)
        (fun i r hir j v hj => by obtain ⟨x, c1, _, c3⟩ := cell i r hir j v hj; simpa [c1] using c3)
    · omega
  | @ptr id ver row off sz t rows q cells hd ho hq hl hc him ih =>
    intro u hv
    obtain ⟨g, tot, hp, rfl⟩ := hv.ptr_inv ho
    have hs := obj_some ho
    obtain ⟨cur, a1, a2, a3, a4, a5, a6⟩ := hi.obj hs hp
    have cell : ∀ (j : Nat) (v : V), cells[j]? = some v → ∃ x, w.cell? ⟨g, row * sz + off + j, none⟩ = some x ∧ VR ρ S1 w false v x ∧ x.oneCell' = true := by
      intro j v hj
      have hlt := (List.getElem?_eq_some_iff.1 hj).1
      have hx : q[off + j]? = some q[off + j] := List.getElem?_eq_getElem (by omega)
      obtain ⟨x, b1, b2, b3⟩ := a6 _ _ hq _ _ hx
      refine ⟨x, ?_, ih j v hj _ hx b2, b3⟩
      have : row * sz + off + j = row * sz + (off + j) := by omega
      simp [World.cell?, a3, this, b1]
    exact .cptr (fun j => (w.cell? ⟨g, row * sz + off + j, none⟩).getD Go.undef) (h.freed hi hd hs hp)
      (fun j v hj => by obtain ⟨x, c1, _⟩ := cell j v hj; simp [c1])
      (fun j v hj => by obtain ⟨x, c1, c2, _⟩ := cell j v hj; simpa [c1] using c2.toImm (him j v hj) true)
      (fun j v hj => by obtain ⟨x, c1, _, c3⟩ := cell j v hj; simpa [c1] using c3)
  | @agg vs ws hl hc ih =>
    intro u hv
    cases hv with
    | agg c hl' hc' hv' =>
      refine .agg c (by omega) (fun j v hj => ?_) (fun j v hj => ?_)
      · have hlt := (List.getElem?_eq_some_iff.1 hj).1
        exact hc' j _ (List.getElem?_eq_getElem (l := vs) (i := j) (by omega))
      · have hlt := (List.getElem?_eq_some_iff.1 hj).1
        have hx := List.getElem?_eq_getElem (l := vs) (i := j) (by omega)
        exact ih j v hj _ hx (hv' j _ hx)
  | @tup vs ws hl hc ih =>
    intro u hv
    cases hv with
    | tup c hl' hc' hv' =>
      refine .tup c (by omega) (fun j v hj => ?_) (fun j v hj => ?_)
      · have hlt := (List.getElem?_eq_some_iff.1 hj).1
        exact hc' j _ (List.getElem?_eq_getElem (l := vs) (i := j) (by omega))
      · have hlt := (List.getElem?_eq_some_iff.1 hj).1
        have hx := List.getElem?_eq_getElem (l := vs) (i := j) (by omega)
        exact ih j v hj _ hx (hv' j _ hx)
  | iface h ih =>
    intro u hv
    cases hv with
    | iface hv => exact .iface (ih hv)
  | nil => intro u hv; cases hv; exact .slNil
theorem Inv.forget (hi : Inv ρ S w) (h : Fgt S S1) : Inv ρ S1 w where
  rows id ver e sz rows1 hs := by
    obtain ⟨⟨v0, st0⟩, h1, h2, h3⟩ := h.obj id _ hs
    obtain ⟨rows, h4, h5, h6, h7⟩ := h3 e sz rows1 rfl
    simp only at h2 h4
    subst h2 h4
    refine ⟨h6, ?_⟩
    obtain ⟨k1, k2⟩ := hi.rows id _ e sz rows h1
    rcases k2 with ⟨k2, rfl⟩ | ⟨g, tot, cur, a, b, c, d, f, k⟩
    · exact .inl ⟨k2, List.length_eq_zero_iff.1 h5⟩
    · refine .inr ⟨g, tot, cur, a, by omega, c, d, f, fun i r hr j v hj => ?_⟩
      have hlt := (List.getElem?_eq_some_iff.1 hr).1
      have hq := List.getElem?_eq_getElem (l := rows) (i := i) (by omega)
      have hjl := (List.getElem?_eq_some_iff.1 hj).1
      have h8 := h6 i r hr
      have h9 := k1 i _ hq
      have hx := List.getElem?_eq_getElem (l := rows[i]) (i := j) (by omega)
      obtain ⟨u, hu, hv, h10⟩ := k i _ hq j _ hx
      exact ⟨u, hu, (h7 i r hr j v hj _ _ hq hx).rel h hi hv, h10⟩
  inj i j o p c d g x y ho hp hc hd hr hr' := by
    obtain ⟨o', c', h1, h2, _⟩ := h.alive ho hc
    obtain ⟨p', d', h3, h4, _⟩ := h.alive hp hd
    exact hi.inj i j o' p' c' d' g x y h1 h3 h2 h4 hr hr'
  maps id ver m1 hs := by
    obtain ⟨⟨v0, st0⟩, m, h1, h2, h3, hxf, _, h4, hk, h5⟩ := h.objM id _ hs m1 rfl
    simp only at h2 h3
    subst h2 h3
    obtain ⟨g, a, b⟩ := hi.maps id _ m h1
    refine ⟨g, a, ?_⟩
    have asMap : m.x.isIt = false → ∃ es ck, w.heap[g]? = some (.map es ck) ∧ MR ρ S1 w m1 es ∧ Stp es ck := fun hx => by
      obtain ⟨es, ck, b, ⟨c, _, d⟩, f⟩ := HR.map (kd := m.kd) (rows := m.rows) (x := m.x) b hx
      simp only at c d
      refine ⟨es, ck, b, ⟨by rw [c, h4], hk, fun i k v hik => ?_⟩, f⟩
      have hlt := (List.getElem?_eq_some_iff.1 hik).1
      have hp := List.getElem?_eq_getElem (l := m.rows) (i := i) (by omega)
      obtain ⟨e, h6, h7, h8⟩ := d i _ _ hp
      obtain ⟨h9, h10⟩ := h5 i _ _ hik hp
      exact ⟨e, h6, h9.rel h hi h7, h10.rel h hi h8⟩
    obtain ⟨kd1, rs1, x1⟩ := m1
    have hxi := hxf.isIt
    cases x1 with
    | free => exact asMap hxi
    | held i => exact asMap hxi
    | opened j n =>
      obtain ⟨kd0, rs0, x0⟩ := m
      cases x0 with
      | free => exact hxf.elim
      | held i => exact hxf.elim
      | iter _ _ => exact hxf.elim
      | opened j0 n0 =>
        obtain ⟨rfl, rfl⟩ := hxf
        obtain ⟨es, ck, b, ⟨c, _, d⟩, f⟩ := b
        simp only at c d h4 h5
        refine ⟨es, ck, b, ⟨by rw [c, h4], hk, fun i k v hik => ?_⟩, f⟩
        simp only at hik
        have hlt := (List.getElem?_eq_some_iff.1 hik).1
        have hp := List.getElem?_eq_getElem (l := rs0) (i := i) (by omega)
        obtain ⟨e, h6, h7, h8⟩ := d i _ _ hp
        obtain ⟨h9, h10⟩ := h5 i _ _ hik hp
        exact ⟨e, h6, h9.rel h hi h7, h10.rel h hi h8⟩
    | iter of1 c1 =>
      obtain ⟨kd0, rs0, x0⟩ := m
      cases x0 with
      | free => exact hxf.elim
      | held i => exact hxf.elim
      | opened _ _ => exact hxf.elim
      | iter of c =>
        obtain ⟨rfl, hc⟩ := hxf
        obtain ⟨_, l, ce, ⟨d1, d2⟩, f, q⟩ := b
        simp only at h4 h5 d1 d2
        refine ⟨hk, l, ce, ⟨by rw [d1, ← h4], fun i k v hik => ?_⟩, fun p1 hp1 => ?_, ?_⟩
        · simp only at hik
          have hlt := (List.getElem?_eq_some_iff.1 hik).1
          have hp := List.getElem?_eq_getElem (l := rs0) (i := i) (by omega)
          obtain ⟨e, h6, h7, h8⟩ := d2 i _ _ hp
          obtain ⟨h9, h10⟩ := h5 i _ _ hik hp
          exact ⟨e, h6, h9.rel h hi h7, h10.rel h hi h8⟩
        · obtain ⟨p, hp, h9, h10⟩ := hc p1 hp1
          obtain ⟨h7, h8⟩ := f p hp
          exact ⟨h9.rel h hi h7, h10.rel h hi h8⟩
        · cases of with
          | none => exact q
          | some z =>
            obtain ⟨mid, mver⟩ := z
            obtain ⟨gm, since, seen, q1, q2⟩ := q
            refine ⟨gm, since, seen, q1, fun kd2 rows2 hm => ?_⟩
            obtain ⟨⟨v0, st0⟩, ⟨kd3, rs3, x3⟩, e1, e2, e3, e4, _⟩ := h.objM mid _ hm _ rfl
            simp only at e2 e3
            subst e2 e3
            cases x3 with
            | free => exact e4.elim
            | iter _ _ => exact e4.elim
            | opened _ _ => exact e4.elim
            | held j =>
              have e4 : j = id := e4
              subst e4
              obtain ⟨l1, es, l2, l3, l4, l5⟩ := q2 _ _ e1
              refine ⟨l1, es, l2, l3, l4, fun hs1 => l5 ?_⟩
              obtain ⟨p1, hp1⟩ := Option.isSome_iff_exists.1 hs1
              obtain ⟨p, hp, _⟩ := hc p1 hp1
              rw [hp]
              rfl
  tab p hp := by
    obtain ⟨a, t, fr, b⟩ := hi.tab p hp
    exact ⟨(h.un _ a).1, t, fr, b⟩
theorem Ext.forget {ρ0 : Place} {S0 : Store} {w0 : World} (hx : Ext ρ0 S0 w0 ρ S w) (h : Fgt S S1) (hl : S0.length ≤ S1.length) : Ext ρ0 S0 w0 ρ S1 w where
  os := hx.os
  tape := hx.tape
  output := hx.output
  size := hx.size
  un g hg := ⟨(h.un _ (hx.un g hg).1).1, (hx.un g hg).2⟩
  len := hl
  ver id o o1 ho ho1 := by
    obtain ⟨o', h1, h2, h3⟩ := h.obj id o1 ho1
    obtain ⟨a, b⟩ := hx.ver id o o' ho h1
    refine ⟨by omega, fun hv c1 hc1 => ?_⟩
    cases c1 with
    | arr t sz rows1 =>
      obtain ⟨rows, h4, h5, _⟩ := h3 t sz rows1 hc1
      obtain ⟨c, k1, k2, k3⟩ := b (by omega) _ h4
      cases c with
      | arr t0 sz0 rows0 =>
        simp only [Cont.like] at k2
        exact ⟨_, k1, ⟨k2.1, k2.2.1, k2.2.2.trans h5.symm⟩, k3⟩
      | mp rows0 => exact k2.elim
    | mp rows1 =>
      obtain ⟨o2, rows, h4, _, h6, hxf, h7, _⟩ := h.objM id o1 ho1 rows1 hc1
      rw [h1] at h4
      cases h4
      obtain ⟨c, k1, k2, k3⟩ := b (by omega) _ h6
      cases c with
      | arr t0 sz0 rows0 => exact k2.elim
      | mp rows0 => exact ⟨_, k1, ⟨Eq.trans k2.1 h7.symm, Eq.trans k2.2 hxf.isIt⟩, k3⟩
theorem Fgt.take {n : Nat} (hcl : S.closed n) (hn : n ≤ S.length) (hsz : ∀ (id ver : Nat) (e : TypeId) (sz : Nat) (rows : List (List V)), id < n → S[id]? = some ⟨ver, some (.arr e sz rows)⟩ → ∀ (i : Nat) (r : List V), rows[i]? = some r → r.length = sz) : Fgt S (S.take n) where
  len := by simp; omega
  obj id o1 h := by
    have hid : id < n ∧ S[id]? = some o1 := by
      rw [List.getElem?_take] at h
      split at h
      · rename_i hlt; exact ⟨hlt, h⟩
      · cases h
    refine ⟨o1, hid.2, rfl, fun t sz rows hst => ⟨rows, hst, rfl, ?_, ?_⟩⟩
    · obtain ⟨ver, st⟩ := o1
      simp only at hst
      subst hst
      exact hsz id ver t sz rows hid.1 hid.2
    · obtain ⟨ver, st⟩ := o1
      simp only at hst
      subst hst
      intro i r hr j v hj r' x hr' hx
      rw [hr] at hr'
      cases hr'
      rw [hj] at hx
      cases hx
      refine .same (.inl ?_)
      have hl : (S.take n).length = n := by simp; omega
      rw [hl]
      exact V.allUnder_get (hcl.1 id ver t sz rows hid.1 hid.2 r (List.mem_of_getElem? hr)) j v hj
  objM id o1 h rows1 hst := by
    have hid : id < n ∧ S[id]? = some o1 := by
      rw [List.getElem?_take] at h
      split at h
      · rename_i hlt; exact ⟨hlt, h⟩
      · cases h
    obtain ⟨ver, st⟩ := o1
    simp only at hst
    subst hst
    have hl : (S.take n).length = n := by simp; omega
    refine ⟨_, rows1, hid.2, rfl, rfl, .same fun of p hp => .inl (by rw [hl]; exact (hcl.2 id ver rows1 hid.1 hid.2).2 of p hp), rfl, rfl, fun p hp => ((hcl.2 id ver rows1 hid.1 hid.2).1 p hp).2.2, fun i p1 p hp1 hp => ?_⟩
    rw [hp1] at hp
    cases hp
    obtain ⟨k1, k2, _⟩ := (hcl.2 id ver rows1 hid.1 hid.2).1 p1 (List.mem_of_getElem? hp1)
    exact ⟨.same (.inl (by rw [hl]; exact k1)), .same (.inl (by rw [hl]; exact k2))⟩
end
def subF (S S1 : Store) : Env → Env → Prop
  | [], _ => True
  | (k, v) :: r, E => Frz S S1 (E.get k) v ∧ subF S S1 r E
theorem subF_get {S S1 : Store} : ∀ {F E : Env}, subF S S1 F E → ∀ t, F.get t = .undef ∨ Frz S S1 (E.get t) (F.get t)
  | [], _, _, _ => .inl rfl
  | (k, v) :: r, E, h, t => by
    simp only [Env.get]
    by_cases ht : t = k
    · rw [if_pos ht]; subst ht; exact .inr h.1
    · rw [if_neg ht]; exact subF_get h.2 t
section
variable {P : Program} {N : Nat} {σ : Base}
theorem Rel.forget {ρ : Place} {S S1 : Store} {w : World} {E F : Env} {a : Act} (h : Rel N ρ S w E.get a) (hf : Fgt S S1) (hs : subF S S1 F E) : Rel N ρ S1 w F.get a :=
  ⟨h.inv.forget hf, h.defers, h.size, fun t => by
    rcases subF_get hs t with h1 | h1
    · rw [h1]; exact .undef
    · exact h1.rel hf h.inv (h.slots t)⟩
def Back (E1 : Env) (S1 : Store) (E : Env) (S : Store) : Prop := (sub E1 E ∧ S = S1) ∨ (Fgt S S1 ∧ subF S S1 E1 E)
theorem loopF {ι : Type} (EI : ι → Env) (SI : ι → Store) (inv : ι → Prop) (μ : ι → Nat) {b : ACode} {Q : Exit → Env → Store → Prop} {E : Env} {S : Store} (hn : ∀ i, inv i → σ.S.length ≤ (SI i).length) (i0 : ι) (h0 : inv i0) (hE : Back (EI i0) (SI i0) E S)
    (round : ∀ i, inv i → wpA P N σ b (thenA (fun E' S' => ∃ i', inv i' ∧ μ i' < μ i ∧ Back (EI i') (SI i') E' S') Q) (EI i) (SI i)) : LoopA P N σ b Q E S := by
  have back : ∀ {i : ι} {E' : Env} {S' : Store} {ρ : Place} {a : Act} {w : World}, inv i → Back (EI i) (SI i) E' S' → Ext σ.ρ σ.S σ.w ρ S' w → Rel N ρ S' w E'.get a → Ext σ.ρ σ.S σ.w ρ (SI i) w ∧ Rel N ρ (SI i) w (EI i).get a := by
    intro i E' S' ρ a w hi hb hx hr
    rcases hb with ⟨h1, rfl⟩ | ⟨h1, h2⟩
    · exact ⟨hx, hr.sub h1⟩
    · exact ⟨hx.forget h1 (hn i hi), hr.forget h1 h2⟩
  intro c own hc ρ a w hx hr
  obtain ⟨hx0, hr0⟩ := back h0 hE hx hr
  refine wp_loop_ghost (fun n a w => ∃ ρ i, n = μ i ∧ inv i ∧ Ext σ.ρ σ.S σ.w ρ (SI i) w ∧ Rel N ρ (SI i) w (EI i).get a) (μ i0) ⟨ρ, i0, rfl, h0, hx0, hr0⟩ ?_
  rintro n a w ⟨ρ, i, rfl, hi, h1, h2⟩
  refine wp_mono (wpA_sound c b hc _ (EI i) (SI i) (round i hi) ρ a w h1 h2) fun x a w hp => ?_
  obtain ⟨hok, ρ', E', S', h3, h4, h5⟩ := hp
  cases x <;> simp only [okExit] at hok
  · obtain ⟨i', hi', hlt, hs⟩ := h5
    obtain ⟨h6, h7⟩ := back hi' hs h3 h4
    exact ⟨μ i', hlt, ρ', i', rfl, hi', h6, h7⟩
  · exact ⟨trivial, ρ', E', S', h3, h4, h5⟩
  · exact ⟨trivial, ρ', E', S', h3, h4, h5⟩
theorem CallA.fin {own : Hint} {f : FuncId} {fn : Func} {af : AFun} {args : List V} {S : Store} {R : V → Store → Prop} (hf : P.funcs[f]? = some fn) (hc : compF P own fn = some af) (hN : args.length ≤ af.N)
    (h : ∀ σ : Base, σ.S = S → wpA P af.N σ af.code (retK af.res fun r S' => ∃ r1 S1, Fgt S' S1 ∧ Frz S' S1 r r1 ∧ S.length ≤ S1.length ∧ R r1 S1) (argEnv 0 args) S) : CallA P f args S R := by
  have hk := CallA.keep hf hc hN h
  refine ⟨hk.1, fun ρ w us hi hv => (hk.2 ρ w us hi hv).mono fun en w' ⟨ρ', S', r, u, h1, h2, h3, h4, r1, S1, h5, h6, h7, h8⟩ => ?_⟩
  exact ⟨ρ', S1, r1, u, h1, h6.rel h5 h3 h2, h3.forget h5, h4.forget h5 h7, h8⟩
theorem CallA.froze {f : FuncId} {args args1 : List V} {S S1 : Store} {R : V → Store → Prop} (h : CallA P f args1 S1 R) (hf : Fgt S S1) (hl : S.length ≤ S1.length) (hlen : args.length = args1.length)
    (ha : ∀ (j : Nat) (v1 v : V), args1[j]? = some v1 → args[j]? = some v → Frz S S1 v v1) : CallA P f args S R := by
  refine ⟨h.1, fun ρ w us hi hv => ?_⟩
  have hx : Ext ρ S w ρ S1 w := (Ext.refl ρ S w).forget hf hl
  refine (h.2 ρ w us (hi.forget hf) ⟨by rw [hv.1, hlen], fun j v1 hj => ?_⟩).mono fun en w' ⟨ρ', S', r, u, h1, h2, h3, h4, h5⟩ => ⟨ρ', S', r, u, h1, h2, h3, hx.trans h4, h5⟩
  have hlt := (List.getElem?_eq_some_iff.1 hj).1
  have hx := List.getElem?_eq_getElem (l := args) (i := j) (by omega)
  obtain ⟨u, hu, hr⟩ := hv.2 j _ hx
  exact ⟨u, hu, (ha j v1 _ hj hx).rel hf hi hr⟩
end
end Go.AL
