/- Further operations. -/
import Derived.Test.YtkdbghhdklfoiaaDoorSAlK
import Derived.Lib.Builder
import Derived.Lib.UnsafeStr
import Derived.Lib.ConvBytes
import Derived.Laws.AppendOwn
namespace Go.AL
set_option linter.unusedSectionVars false
variable [Mode]
set_option linter.unusedSimpArgs false
set_option linter.unusedVariables false
section
variable {P : Program} {o : Oper} {a : Act} {ρ : Place} {S : Store} {w : World} {e : Nat → V} {v : V} {ao : AOp}
theorem lies_self {t : TypeId} {s tot row : Nat} (hs : P.cellsOf t = s) (h0 : s ≠ 0) (hr : row < tot) : liesAt P P.depth t tot (row * s) t 1 = true := by
  have hd : P.depth = (2 * (P.types.size + Made.depth) + 1) + 1 := rfl
  have hl : sameLayout P P.depth t t = true := by rw [hd]; simp [sameLayout]
  rw [hd, liesAt]
  have : rowAt P (fun x => sameLayout P P.depth x t) P.depth t tot (row * s) 1 = true := by
    generalize hf : (fun x => sameLayout P P.depth x t) = f
    have hft : f t = true := by rw [← hf]; exact hl
    rw [hd, rowAt]
    simp only [hs, if_neg h0]
    have h1 : row * s / s = row := Nat.mul_div_cancel _ (Nat.pos_of_ne_zero h0)
    have h2 : row * s % s = 0 := Nat.mul_mod_left _ _
    rw [h1, h2]
    simp [hft, Nat.succ_le_of_lt hr]
  rw [this, Bool.true_or]
theorem owned_block {id ver sz g tot : Nat} {t : TypeId} {rows : List (List V)} (hi : Inv ρ S w) (hs : S.obj? id ver = some (t, sz, rows)) (hg : ρ id = some (g, tot)) :
    ∃ cur, w.heap[g]? = some (.cells cur t (0, 0)) ∧ cur.size = tot * sz ∧ rows.length ≤ tot ∧ tot ≤ maxLen ∧ (∀ (i : Nat) (r : List V), rows[i]? = some r → r.length = sz) ∧ ∀ (i : Nat) (r : List V), rows[i]? = some r → ∀ (j : Nat) (v : V), r[j]? = some v → ∃ u, cur[i * sz + j]? = some u ∧ VR ρ S w false v u ∧ u.oneCell' = true := by
  obtain ⟨h1, h2⟩ := hi.rows id ver t sz rows (obj_some hs)
  rcases h2 with ⟨h2, _⟩ | ⟨g', tot', cur, a, b, c, d, f, k⟩
  · rw [hg] at h2; cases h2
  · rw [hg] at a
    cases a
    exact ⟨cur, d, f, b, c, h1, k⟩
theorem sound_eqP {neg : Bool} {op : BinOp} {t t' u : TypeId} {j : TypeInfo} {x y : Operand} {x' y' : Opd} (hop : op = (if neg then .neq else .eql)) (ho : o.op = .binOp op t x y t') (ht : P.underlying t = some (.pointer u)) (hu : P.info? u = some j) (hsz : j.size ≠ 0)
    (he : Slots ρ S w e a) (hi : Inv ρ S w) (hx : opd x = some x') (hy : opd y = some y') (h : opV e S (.xo (.eqP neg) [x', y']) = some v) : Yields P o a ρ S w v := by
  have h1 := opd_rel he hx
  have h2 := opd_rel he hy
  simp only [opV, evs, List.map_cons, List.map_nil, xopV, eqPV] at h
  split at h
  · rename_i id ver row off id' ver' row' off' e1 e2
    split at h
    · rename_i hc
      obtain ⟨rfl, rfl, rfl, rfl, hsome⟩ := hc
      simp only [Option.some.injEq] at h
      subst h
      obtain ⟨⟨t0, sz, rows⟩, hs⟩ := Option.isSome_iff_exists.1 hsome
      rw [e1] at h1
      rw [e2] at h2
      obtain ⟨g, tot, p1, p2⟩ := h1.ptr_inv hs
      obtain ⟨g', tot', q1, q2⟩ := h2.ptr_inv hs
      rw [p1] at q1
      cases q1
      have hg : ∀ op w, (eqGuard op t x y (.pointer (some ⟨g, row * sz + off, none⟩)) (.pointer (some ⟨g, row * sz + off, none⟩))).run P w = .ok () w := by
        intro op w; unfold eqGuard; cases op <;> rfl
      have hn := Lib.run_neq_ptr_same (P := P) w (⟨g, row * sz + off, none⟩ : Addr) ht hu
      have heqp : (binOp .eql t (.pointer (some ⟨g, row * sz + off, none⟩)) (.pointer (some ⟨g, row * sz + off, none⟩))).run P w = .ok (.bool true) w := by
        have h : ∀ d : Nat, (Op.equalIn (d + 1) t (.pointer (some ⟨g, row * sz + off, none⟩)) (.pointer (some ⟨g, row * sz + off, none⟩))).run P w = .ok true w := fun d => by
          simp [Op.equalIn, run_underlying ht, sizeOf, typeInfo, hu, run_sameAddr_same]
        simp only [binOp]
        simp [Op.equal, Op.maxDepth, h 9999]
      refine Yields.same hi (u := .bool (!neg)) ?_ .bool
      cases neg
      · simp only [Bool.false_eq_true, if_false] at hop
        subst hop
        simp [execOp, ho, p2, q2, hg, heqp]
      · simp only [if_true] at hop
        subst hop
        simp [execOp, ho, p2, q2, hg, hn]
    · rename_i hnc
      split at h
      · rename_i hc
        obtain ⟨hne, hsome, hsome'⟩ := hc
        simp only [Option.some.injEq] at h
        subst h
        obtain ⟨⟨t0, sz, rows⟩, hs⟩ := Option.isSome_iff_exists.1 hsome
        obtain ⟨⟨t1, sz1, rows1⟩, hs1⟩ := Option.isSome_iff_exists.1 hsome'
        rw [e1] at h1
        rw [e2] at h2
        obtain ⟨g, tot, p1, p2⟩ := h1.ptr_inv hs
        obtain ⟨g', tot', q1, q2⟩ := h2.ptr_inv hs1
        have hgg : g ≠ g' := fun e => hne (hi.inj id id' _ _ _ _ g tot tot' (obj_some hs) (obj_some hs1) rfl rfl p1 (by rw [e]; exact q1))
        have hb : ∃ cur, w.heap[g]? = some (.cells cur t0 (0, 0)) := by
          rcases (hi.rows id ver t0 sz rows (obj_some hs)).2 with ⟨z, _⟩ | ⟨g1, tot1, cur, z, _, _, hh, _⟩
          · rw [z] at p1; cases p1
          · rw [z] at p1; cases p1; exact ⟨cur, hh⟩
        have hb' : ∃ cur, w.heap[g']? = some (.cells cur t1 (0, 0)) := by
          rcases (hi.rows id' ver' t1 sz1 rows1 (obj_some hs1)).2 with ⟨z, _⟩ | ⟨g1, tot1, cur, z, _, _, hh, _⟩
          · rw [z] at q1; cases q1
          · rw [z] at q1; cases q1; exact ⟨cur, hh⟩
        obtain ⟨cur, hb⟩ := hb
        obtain ⟨cur', hb'⟩ := hb'
        have hg : ∀ op w, (eqGuard op t x y (.pointer (some ⟨g, row * sz + off, none⟩)) (.pointer (some ⟨g', row' * sz1 + off', none⟩))).run P w = .ok () w := by
          intro op w; unfold eqGuard; cases op <;> rfl
        have hap : (⟨g, row * sz + off, none⟩ : Addr) ≠ ⟨g', row' * sz1 + off', none⟩ := fun e => hgg (by injection e)
        have heq : ∀ d : Nat, (Op.equalIn (d + 1) t (.pointer (some ⟨g, row * sz + off, none⟩)) (.pointer (some ⟨g', row' * sz1 + off', none⟩))).run P w = .ok false w := fun d => by
          simp [Op.equalIn, run_underlying ht, sizeOf, typeInfo, hu, hsz, run_sameAddr_other w hap hb hb']
        have hq : (Op.equal t (.pointer (some ⟨g, row * sz + off, none⟩)) (.pointer (some ⟨g', row' * sz1 + off', none⟩))).run P w = .ok false w := by
          simp [Op.equal, Op.maxDepth, heq 9999]
        have heqp : (binOp .eql t (.pointer (some ⟨g, row * sz + off, none⟩)) (.pointer (some ⟨g', row' * sz1 + off', none⟩))).run P w = .ok (.bool false) w := by
          simp only [binOp]
          simp [hq]
        have hneq : (binOp .neq t (.pointer (some ⟨g, row * sz + off, none⟩)) (.pointer (some ⟨g', row' * sz1 + off', none⟩))).run P w = .ok (.bool true) w := by
          simp only [binOp]
          simp [hq]
        refine Yields.same hi (u := .bool neg) ?_ .bool
        cases neg
        · simp only [Bool.false_eq_true, if_false] at hop
          subst hop
          simp [execOp, ho, p2, q2, hg, heqp]
        · simp only [if_true] at hop
          subst hop
          simp [execOp, ho, p2, q2, hg, hneq]
      · cases h
  · cases h
theorem sound_toU {src dst t : TypeId} {j : TypeInfo} {x : Operand} {x' : Opd} (ho : o.op = .convert src dst x) (hs : P.underlying src = some (.pointer t)) (hd : P.underlying dst = some .unsafePointer) (ht : P.info? t = some j) (hj : j.size ≠ 0)
    (he : Slots ρ S w e a) (hi : Inv ρ S w) (hx : opd x = some x') (h : opV e S (.xo .toU [x']) = some v) : Yields P o a ρ S w v := by
  have h1 := opd_rel he hx
  simp only [opV, evs, List.map_cons, List.map_nil, xopV, toUV] at h
  split at h
  · rename_i id ver row off e1
    rw [e1] at h1
    split at h
    · rename_i t0 sz rows hso
      split at h
      · rename_i hc
        simp only [Option.some.injEq] at h
        subst h
        obtain ⟨g, tot, p1, p2⟩ := h1.ptr_inv hso
        obtain ⟨cur, b1, b2, b3, _⟩ := owned_block hi hso p1
        rw [p2] at h1
        refine Yields.same hi (u := .pointer (some ⟨g, row * sz + off, none⟩)) ?_ h1
        have hlt : row * sz + off < tot * sz := by
          have h1 : (row + 1) * sz ≤ tot * sz := Nat.mul_le_mul_right _ (by omega)
          rw [Nat.succ_mul] at h1
          omega
        have hrun := Lib.run_to_unsafe (P := P) w (src := src) (dst := dst) (⟨g, row * sz + off, none⟩ : Addr) hs hd ht hj (e := t0) (cells := cur.size) (by simp [World.shape?, b1]) (by rw [b2]; exact hlt)
        simp [execOp, ho, p2, hrun]
      · cases h
    · cases h
  · cases h
theorem sound_frU {src dst t : TypeId} {j : TypeInfo} {x : Operand} {x' : Opd} (ho : o.op = .convert src dst x) (hs : P.underlying src = some .unsafePointer) (hd : P.underlying dst = some (.pointer t)) (ht : P.info? t = some j) (hj : j.size ≠ 0)
    (he : Slots ρ S w e a) (hi : Inv ρ S w) (hx : opd x = some x') (h : opV e S (.xo (.frU t j.size) [x']) = some v) : Yields P o a ρ S w v := by
  have h1 := opd_rel he hx
  simp only [opV, evs, List.map_cons, List.map_nil, xopV, frUV] at h
  split at h
  · rename_i id ver row off e1
    rw [e1] at h1
    split at h
    · rename_i t0 sz rows hso
      split at h
      · rename_i hc
        obtain ⟨rfl, rfl, rfl, hrow⟩ := hc
        simp only [Option.some.injEq] at h
        subst h
        obtain ⟨g, tot, p1, p2⟩ := h1.ptr_inv hso
        obtain ⟨cur, b1, b2, b3, _⟩ := owned_block hi hso p1
        rw [p2] at h1
        refine Yields.same hi (u := .pointer (some ⟨g, row * j.size + 0, none⟩)) ?_ h1
        have hce : P.cellsOf t0 = j.size := by simp [Program.cellsOf, ht]
        have hrun := Lib.run_from_unsafe (P := P) w (src := src) (dst := dst) (⟨g, row * j.size + 0, none⟩ : Addr) hs hd ht (e := t0) (cells := cur.size) (by simp [World.shape?, b1]) (by
          rw [b2, hce, Nat.mul_div_cancel _ (Nat.pos_of_ne_zero hj)]
          exact lies_self hce hj (by omega))
        simp only [execOp, ho, p2, Sem.run_bind, hrun, Result.andThen_ok, Sem.run_pure]
      · cases h
    · cases h
  · cases h
theorem sound_sdat {c : Call} {x : Operand} {x' : Opd} (ho : o.op = .call c) (hc : c.callee = .builtin .unsafeSliceData) (ha : c.args.toList = [x]) (he : Slots ρ S w e a) (hi : Inv ρ S w) (hx : opd x = some x')
    (h : opV e S (.xo .sdat [x']) = some v) : Yields P o a ρ S w v := by
  have h1 := opd_rel he hx
  have ha' : c.args = #[x] := by rw [← ha]
  simp only [opV, evs, List.map_cons, List.map_nil, xopV, sdatV] at h
  split at h
  · rename_i heq2
    rw [heq2] at h1
    simp only [Option.some.injEq] at h
    subst h
    have hus : a.eval x = .slice none 0 0 := by generalize a.eval x = u at h1; cases h1; rfl
    refine Yields.same hi (u := .pointer none) ?_ .nilPtr
    simp [execOp, ho, hc, ha', hus, resolve, invoke, builtin, Lib.run_unsafeSliceData_nil]
  · rename_i id ver off len heq2
    rw [heq2] at h1
    split at h
    · rename_i hcd
      simp only [Option.some.injEq] at h
      subst h
      obtain ⟨⟨t0, sz, rows⟩, hso⟩ := Option.isSome_iff_exists.1 hcd.2
      obtain ⟨m1, m2⟩ := h1.msl_inv hso
      rcases m2 with ⟨_, _, h0, _⟩ | ⟨g, tot, cap, p1, p2, p3, p4, p5⟩ | ⟨_, h0, _⟩
      · omega
      · refine Yields.same hi (u := .pointer (some ⟨g, off * sz, none⟩)) ?_ ?_
        · simp [execOp, ho, hc, ha', p2, resolve, invoke, builtin, Lib.run_unsafeSliceData_row (P := P) (w := w) _ _ ⟨g, off * sz, none⟩ len cap (by omega)]
        · rw [p2] at h1
          cases h1 with
          | msl hlt hver hh _ =>
            refine .ptr hlt hver (fun e s rs hs => ⟨g, tot, p1, ?_⟩) rfl
            have hs2 := obj_some hso
            rw [hs2] at hs
            cases hs
            rfl
      · omega
    · cases h
  · cases h
theorem convX_spec {src dst : TypeId} {op : XOp} (h : convX P src dst = some op) :
    (∃ t j, P.underlying src = some (.pointer t) ∧ P.underlying dst = some .unsafePointer ∧ P.info? t = some j ∧ j.size ≠ 0 ∧ op = .toU) ∨
    (∃ t j, P.underlying src = some .unsafePointer ∧ P.underlying dst = some (.pointer t) ∧ P.info? t = some j ∧ j.size ≠ 0 ∧ op = .frU t j.size) := by
  unfold convX at h
  split at h
  · rename_i t hs hd
    split at h
    · rename_i j hj
      split at h
      · cases h
      · rename_i h0
        simp only [Option.some.injEq] at h
        exact .inl ⟨t, j, hs, hd, hj, h0, h.symm⟩
    · cases h
  · rename_i t hs hd
    split at h
    · rename_i j hj
      split at h
      · cases h
      · rename_i h0
        simp only [Option.some.injEq] at h
        exact .inr ⟨t, j, hs, hd, hj, h0, h.symm⟩
    · cases h
  · cases h
theorem stuck_none {l : List Opd} : opV e S (.xo .stuck l) = none := by
  simp only [opV, xopV]
theorem mp_some {id ver : Nat} {kd : KD} {rows : List (V × V)} {x : MX} (h : S.mp? id ver = some (kd, rows, x)) : S[id]? = some ⟨ver, some (.mp ⟨kd, rows, x⟩)⟩ := by
  unfold Store.mp? at h
  split at h
  · rename_i v m hs
    split at h
    · rename_i hv
      subst hv
      simp only [Option.some.injEq, Prod.mk.injEq] at h
      obtain ⟨rfl, rfl, rfl⟩ := h
      exact hs
    · cases h
  · cases h
theorem VR.mapv_inv {id ver : Nat} {kd : KD} {rows : List (V × V)} {x : MX} {u : Value} {b : Bool} (h : VR ρ S w b (.mapv id ver) u) (hs : S.mp? id ver = some (kd, rows, x)) (hx : x.isIt = false) : ∃ g, ρ id = some (g, 0) ∧ u = .map (some g) := by
  cases h with
  | mapv hlt hver hh h1 =>
    obtain ⟨g, h2, h3⟩ := hh _ (mp_some hs)
    exact ⟨g, h2, by rw [h3]; simp [MapC.addr, hx]⟩
theorem VR.iter_inv {id ver : Nat} {kd : KD} {rows : List (V × V)} {x : MX} {u : Value} {b : Bool} (h : VR ρ S w b (.mapv id ver) u) (hs : S.mp? id ver = some (kd, rows, x)) (hx : x.isIt = true) : ∃ g, ρ id = some (g, 0) ∧ u = .pointer (some ⟨g, 0, none⟩) := by
  cases h with
  | mapv hlt hver hh h1 =>
    obtain ⟨g, h2, h3⟩ := hh _ (mp_some hs)
    exact ⟨g, h2, by rw [h3]; simp [MapC.addr, hx]⟩
theorem HR.map {id g : Nat} {kd : KD} {rows : List (V × V)} {x : MX} (h : HR ρ S w id ⟨kd, rows, x⟩ g) (hx : x.isIt = false) : ∃ es ck, w.heap[g]? = some (.map es ck) ∧ MR ρ S w ⟨kd, rows, x⟩ es ∧ Stp es ck := by
  cases x <;> first | exact h | (obtain ⟨es, ck, h1, h2, h3, _⟩ := h; exact ⟨es, ck, h1, h2, h3⟩) | cases hx
theorem map_find (hi : Inv ρ S w) {id ver g : Nat} {kd : KD} {rows : List (V × V)} {x : MX} {kt : TypeId} {k : V} {uk : Value} (hs : S.mp? id ver = some (kd, rows, x)) (hx : x.isIt = false) (hr : ρ id = some (g, 0)) (hk : kdOf P kt = some kd) (hkv : isKV kd k = true) (hv : VR ρ S w false k uk) :
    ∃ es ck, w.heap[g]? = some (.map es ck) ∧ MR ρ S w ⟨kd, rows, x⟩ es ∧ Stp es ck ∧
      (((Instr.findKey kt uk es.toList).run P w = .ok none w ∧ findV k rows = none ∧ ∀ (i : Nat) (p : V × V), rows[i]? = some p → eqKV k p.1 = false) ∨
       ∃ i p e, (Instr.findKey kt uk es.toList).run P w = .ok (some (i, e.val)) w ∧ es[i]? = some e ∧ e.key = uk ∧ rows[i]? = some p ∧ eqKV k p.1 = true ∧ findV k rows = some p.2 ∧ VR ρ S w false p.2 e.val ∧ ∀ (j : Nat) (q : V × V), j < i → rows[j]? = some q → eqKV k q.1 = false) := by
  obtain ⟨g', a, b⟩ := hi.maps id ver ⟨kd, rows, x⟩ (mp_some hs)
  rw [hr] at a
  cases a
  obtain ⟨es, ck, b, c, cst⟩ := b.map hx
  refine ⟨es, ck, b, c, cst, ?_⟩
  obtain ⟨c1, c2, c3⟩ := c
  have hkm := KM.of hkv hv
  have each : ∀ (i : Nat) (e : MapEntry), es[i]? = some e → ∃ p, rows[i]? = some p ∧ VR ρ S w false p.1 e.key ∧ VR ρ S w false p.2 e.val ∧ isKV kd p.1 = true := by
    intro i e he
    have hlt := (Array.getElem?_eq_some_iff.1 he).1
    have hp := List.getElem?_eq_getElem (l := rows) (i := i) (by simpa [← c1] using hlt)
    obtain ⟨e', he', h1, h2⟩ := c3 i _ _ hp
    rw [he] at he'
    cases he'
    exact ⟨_, hp, h1, h2, c2 _ (List.getElem_mem _)⟩
  have miss : ∀ (n : Nat), (∀ e ∈ es.toList.take n, e.key ≠ uk) → ∀ (j : Nat) (q : V × V), j < n → rows[j]? = some q → eqKV k q.1 = false := by
    intro n h j q hj hq
    obtain ⟨e, he, h1, _⟩ := c3 j q.1 q.2 hq
    have hm : e ∈ es.toList.take n := by
      rw [List.mem_take_iff_getElem]
      have hlt := (Array.getElem?_eq_some_iff.1 he)
      have hlt' := hlt.1
      exact ⟨j, by simp; omega, by simpa using hlt.2⟩
    have hne := h e hm
    have hiff := eqKV_iff (kd := kd) hkv (c2 q (List.mem_of_getElem? hq)) hv h1
    cases hb : eqKV k q.1
    · rfl
    · exact absurd (hiff.1 hb).symm hne
  have none_find : ∀ (l : List (V × V)), (∀ (i : Nat) (p : V × V), l[i]? = some p → eqKV k p.1 = false) → findV k l = none := by
    intro l
    induction l with
    | nil => intro _; rfl
    | cons p l ih =>
      intro h
      rw [findV, h 0 p rfl]
      simp only [Bool.false_eq_true, if_false]
      exact ih fun i q hq => h (i + 1) q (by simpa using hq)
  have first_find : ∀ (l : List (V × V)) (i : Nat) (p : V × V), l[i]? = some p → eqKV k p.1 = true → (∀ (j : Nat) (q : V × V), j < i → l[j]? = some q → eqKV k q.1 = false) → findV k l = some p.2 := by
    intro l
    induction l with
    | nil => intro i p h; simp at h
    | cons x l ih =>
      intro i p h1 h2 h3
      cases i with
      | zero =>
        simp at h1
        subst h1
        rw [findV, h2]
        simp
      | succ i =>
        rw [findV, h3 0 x (by omega) rfl]
        simp only [Bool.false_eq_true, if_false]
        exact ih i p (by simpa using h1) h2 fun j q hj hq => h3 (j + 1) q (by omega) (by simpa using hq)
  rcases find_run (P := P) (w := w) hk hkm es.toList (fun e he => by
      obtain ⟨i, hi'⟩ := List.getElem?_of_mem he
      obtain ⟨p, _, h1, _, h2⟩ := each i e (by simpa using hi')
      exact KM.of h2 h1) with ⟨h1, h2⟩ | ⟨i, e, h1, h2, h3, h4⟩
  · have hm : ∀ (i : Nat) (p : V × V), rows[i]? = some p → eqKV k p.1 = false := fun i p hp => by
      have hlt := (List.getElem?_eq_some_iff.1 hp).1
      exact miss (es.size) (fun e he => h2 e (List.mem_of_mem_take he)) i p (by simpa [c1] using hlt) hp
    exact .inl ⟨h1, none_find _ hm, hm⟩
  · have he : es[i]? = some e := by simpa using h2
    obtain ⟨p, hp, k1, k2, k3⟩ := each i e he
    have heq : eqKV k p.1 = true := (eqKV_iff (kd := kd) hkv k3 hv k1).2 h3.symm
    have hm := miss i h4
    exact .inr ⟨i, p, e, h1, he, h3, hp, heq, first_find _ i p hp heq hm, k2, hm⟩
theorem zeroV_run {t : TypeId} {z : V} (h : zeroV P t = some z) (w : World) : ∃ u, (zeroValue t).run P w = .ok u w ∧ V.ofVal u = some z := by
  unfold zeroV at h
  split at h
  · rename_i i hi
    simp only [Option.bind_eq_some_iff] at h
    obtain ⟨u, hu, hz⟩ := h
    exact ⟨u, by simp [zeroValue, typeInfo, hi, hu], hz⟩
  · cases h
theorem lkRes_rel {zero : V} {ok : Bool} {o : Option V} {u : Value} (h : VR ρ S w false (o.getD zero) u) : VR ρ S w false (lkRes zero ok o) (if ok then .tuple #[u, .bool o.isSome] else u) := by
  cases ok
  · simpa [lkRes] using h
  · simp only [lkRes, if_true]
    refine .tup' rfl fun j x hj => ?_
    match j, hj with
    | 0, hj => simp at hj; subst hj; exact ⟨u, rfl, h⟩
    | 1, hj => simp at hj; subst hj; exact ⟨_, rfl, .bool⟩
    | j + 2, hj => simp at hj
theorem sound_lk {t kt et : TypeId} {m k : Operand} {ok : Bool} {kd : KD} {zero : V} {m' k' : Opd} (ho : o.op = .lookup t m k ok) (ht : P.underlying t = some (.map kt et)) (hk : kdOf P kt = some kd) (hz : zeroV P et = some zero)
    (he : Slots ρ S w e a) (hi : Inv ρ S w) (hm : opd m = some m') (hkk : opd k = some k') (h : opV e S (.xo (.lk kd zero ok) [m', k']) = some v) : Yields P o a ρ S w v := by
  have h1 := opd_rel he hm
  have h2 := opd_rel he hkk
  obtain ⟨z, hzr, hzv⟩ := zeroV_run hz w
  have hzrel := V.ofVal_rel (ρ := ρ) (S := S) (w := w) hzv false
  simp only [opV, evs, List.map_cons, List.map_nil, xopV, lkV] at h
  split at h
  · rename_i e1
    split at h
    · rename_i hkv
      simp only [Option.some.injEq] at h
      subst h
      rw [e1] at h1
      have hu : a.eval m = .map none := by generalize a.eval m = u at h1; cases h1; rfl
      have hkm := KM.of hkv h2
      have hfind : (Instr.findKey kt (a.eval k) []).run P w = .ok none w := by
        rcases find_run (P := P) (w := w) hk hkm [] (by simp) with ⟨h3, _⟩ | ⟨j, e, _, h3, _⟩
        · exact h3
        · simp at h3
      refine .same (u := if ok then .tuple #[z, .bool false] else z) hi ?_ (lkRes_rel (o := none) hzrel)
      simp only [execOp, ho, Instr.lookup, Sem.run_bind, run_underlying ht, Result.andThen_ok, hu, Sem.run_pure, check_run hk hkm, hfind, hzr]
    · cases h
  · rename_i id ver e1
    unfold lkO at h
    split at h
    · rename_i kd' rows x hs
      split at h
      · rename_i hc
        obtain ⟨rfl, hkv, hxf⟩ := hc
        simp only [Option.some.injEq] at h
        subst h
        rw [e1] at h1
        obtain ⟨g, hg, hu⟩ := h1.mapv_inv hs hxf
        obtain ⟨es, ck, hb, hmr, _, hf⟩ := map_find (P := P) hi hs hxf hg hk hkv h2
        have hkm := KM.of hkv h2
        rcases hf with ⟨f1, f2, _⟩ | ⟨i, p, en, f1, f2, f3, f4, f5, f6, f7, _⟩
        · rw [f2]
          refine .same (u := if ok then .tuple #[z, .bool false] else z) hi ?_ (lkRes_rel (o := none) hzrel)
          simp only [execOp, ho, Instr.lookup, Sem.run_bind, run_underlying ht, Result.andThen_ok, hu, Go.MapKept.run_getObj_map hb, Sem.run_pure, check_run hk hkm, f1, hzr]
        · rw [f6]
          refine .same (u := if ok then .tuple #[en.val, .bool true] else en.val) hi ?_ (lkRes_rel (o := some p.2) f7)
          simp only [execOp, ho, Instr.lookup, Sem.run_bind, run_underlying ht, Result.andThen_ok, hu, Go.MapKept.run_getObj_map hb, Sem.run_pure, check_run hk hkm, f1]
      · cases h
    · cases h
  · cases h
theorem sound_ent {x : Operand} {x' : Opd} (ho : o.op = .entry x) (he : Slots ρ S w e a) (hi : Inv ρ S w) (hx : opd x = some x') (h : opV e S (.xo .ent [x']) = some v) : Yields P o a ρ S w v := by
  have h1 := opd_rel he hx
  simp only [opV, evs, List.map_cons, List.map_nil, xopV, entV] at h
  split at h
  · rename_i it iver e1
    rw [e1] at h1
    unfold entO at h
    split at h
    · rename_i kd rows id ver p hs
      unfold entO2 at h
      split at h
      · rename_i kd' rows' it' hm
        split at h
        · rename_i hit
          subst hit
          simp only [Option.some.injEq] at h
          subst h
          obtain ⟨g, hg, hu⟩ := h1.iter_inv hs rfl
          obtain ⟨g', a1, hb⟩ := hi.maps it' iver _ (mp_some hs)
          rw [hg] at a1
          cases a1
          obtain ⟨_, l, ce, _, lc, gm, since, seen, hb, hl⟩ := hb
          obtain ⟨l1, es, l2, l3, l4, l5⟩ := hl kd' rows' (mp_some hm)
          obtain ⟨l6, seen0, rfl⟩ := l5 rfl
          obtain ⟨v1, v2⟩ := lc p rfl
          have hrun := run_entry_at (P := P) w g gm since seen0 es since ce hb l2 l6 l3.2
          refine .same (u := .tuple #[ce.key, ce.val]) hi ?_ (.tup' rfl fun j y hj => ?_)
          · simp only [execOp, ho, hu, Sem.run_bind, hrun, Result.andThen_ok, Sem.run_pure]
          · match j, hj with
            | 0, hj => simp at hj; subst hj; exact ⟨_, rfl, v1⟩
            | 1, hj => simp at hj; subst hj; exact ⟨_, rfl, v2⟩
            | j + 2, hj => simp at hj
        · cases h
      · cases h
    · cases h
  · cases h
theorem sound_lenM {c : Call} {t kt et : TypeId} {x : Operand} {x' : Opd} (ho : o.op = .call c) (hc : c.callee = .builtin .len) (ha : c.args.toList = [x]) (hts : c.argTypes.toList = [t]) (ht : P.underlying t = some (.map kt et))
    (he : Slots ρ S w e a) (hi : Inv ρ S w) (hx : opd x = some x') (h : opV e S (.xo .lenM [x']) = some v) : Yields P o a ρ S w v := by
  have h1 := opd_rel he hx
  have ha' : c.args = #[x] := by rw [← ha]
  have hts' : c.argTypes = #[t] := by rw [← hts]
  simp only [opV, evs, List.map_cons, List.map_nil, xopV, lenMV] at h
  split at h
  · rename_i e1
    simp only [Option.some.injEq] at h
    subst h
    rw [e1] at h1
    have hu : a.eval x = .map none := by generalize a.eval x = u at h1; cases h1; rfl
    refine .same (u := .int .i64 0) hi ?_ .int
    simp [execOp, ho, hc, ha', hts', hu, resolve, invoke, builtin, Builtin.len_, run_underlying ht, goInt]
  · rename_i id ver e1
    unfold lenMO at h
    split at h
    · rename_i kd rows x hs
      split at h
      · rename_i hxf
        simp only [Option.some.injEq] at h
        subst h
        rw [e1] at h1
        obtain ⟨g, hg, hu⟩ := h1.mapv_inv hs hxf
        obtain ⟨g', k1, k2⟩ := hi.maps id ver ⟨kd, rows, x⟩ (mp_some hs)
        rw [hg] at k1
        cases k1
        obtain ⟨es, ck, k2, ⟨k3, _⟩, _⟩ := k2.map hxf
        refine .same (u := .int .i64 rows.length) hi ?_ .int
        simp only at k3
        simp [execOp, ho, hc, ha', hts', hu, resolve, invoke, builtin, Builtin.len_, run_underlying ht, Go.MapKept.run_getObj_map k2, k3, goInt]
      · cases h
    · cases h
  · cases h
theorem sound_eqA0 {neg : Bool} {op : BinOp} {t t' : TypeId} {l : List KD1} {x y : Operand} {x' y' : Opd} (hop : op = (if neg then .neq else .eql)) (ho : o.op = .binOp op t x y t') (hl : ∀ (us vs : Array Value), KMs l us.toList → KMs l vs.toList → ∃ r, (Op.equalIn 10000 t (.agg us) (.agg vs)).run P w = .ok r w ∧ (r = true ↔ us = vs)) (hg : P.eqGuardType P.depth t = false)
    (he : Slots ρ S w e a) (hi : Inv ρ S w) (hx : opd x = some x') (hy : opd y = some y') (h : opV e S (.xo (.eqA l neg) [x', y']) = some v) : Yields P o a ρ S w v := by
  have h1 := opd_rel he hx
  have h2 := opd_rel he hy
  simp only [opV, evs, List.map_cons, List.map_nil, xopV, eqAV] at h
  split at h
  · rename_i p q e1 e2
    split at h
    · rename_i hc
      obtain ⟨k1, k2⟩ := hc
      simp only [Option.some.injEq] at h
      subst h
      rw [e1] at h1
      rw [e2] at h2
      obtain ⟨us, hu, hus⟩ := KM.of (kd := .st l) (by exact k1) h1
      obtain ⟨vs, hv, hvs⟩ := KM.of (kd := .st l) (by exact k2) h2
      have hiff := eqKV_iff (kd := .st l) (v := .agg p) (v' := .agg q) k1 k2 h1 h2
      obtain ⟨r, hr, hri⟩ := hl us vs hus hvs
      have hrb : r = eqKL p q := by
        rw [hu, hv, Value.agg.injEq] at hiff
        exact Bool.eq_iff_iff.2 (hri.trans hiff.symm)
      subst hrb
      refine .same (u := .bool (if neg then !eqKL p q else eqKL p q)) hi ?_ .bool
      cases neg
      · simp only [Bool.false_eq_true, if_false] at hop
        subst hop
        simp only [execOp, ho, Sem.run_bind, hu, hv, run_eqGuard_agg w _ t x y us vs hg, Result.andThen_ok, run_eql_struct, hr, Sem.run_pure]
        rfl
      · simp only [if_true] at hop
        subst hop
        simp only [execOp, ho, Sem.run_bind, hu, hv, run_eqGuard_agg w _ t x y us vs hg, Result.andThen_ok, run_neq_struct, hr, Sem.run_pure]
        rfl
    · cases h
  · cases h
theorem sound_eqA {neg : Bool} {op : BinOp} {t t' : TypeId} {l : List KD1} {x y : Operand} {x' y' : Opd} (hop : op = (if neg then .neq else .eql)) (ho : o.op = .binOp op t x y t') (hl : kdStruct P t = some l) (hg : P.eqGuardType P.depth t = false)
    (he : Slots ρ S w e a) (hi : Inv ρ S w) (hx : opd x = some x') (hy : opd y = some y') (h : opV e S (.xo (.eqA l neg) [x', y']) = some v) : Yields P o a ρ S w v :=
  sound_eqA0 hop ho (fun _ _ h1 h2 => eqA_run hl h1 h2 9998) hg he hi hx hy h
theorem sound_eqArr {neg : Bool} {op : BinOp} {t t' : TypeId} {l : List KD1} {x y : Operand} {x' y' : Opd} (hop : op = (if neg then .neq else .eql)) (ho : o.op = .binOp op t x y t') (hl : kdArr P t = some l) (hg : P.eqGuardType P.depth t = false)
    (he : Slots ρ S w e a) (hi : Inv ρ S w) (hx : opd x = some x') (hy : opd y = some y') (h : opV e S (.xo (.eqA l neg) [x', y']) = some v) : Yields P o a ρ S w v :=
  sound_eqA0 hop ho (fun _ _ h1 h2 => eqArr_run hl h1 h2 9998) hg he hi hx hy h
theorem fill_partsA {place : Nat → Option (Nat × Nat)} (hp : ∀ i, place i = some (i, 1)) (he : Slots ρ S w e a) : ∀ (parts : List (Nat × Operand)) (ps : List (Nat × Nat × Opd)) (vs ws : List V) (us : Array Value),
    partsA1 parts = some ps → fillV e vs ps = some ws → CR ρ S w vs us → ∃ xs, Instr.fill place us (parts.map fun p => (p.1, a.eval p.2)) = some xs ∧ CR ρ S w ws xs := by
  intro parts
  induction parts with
  | nil =>
    intro ps vs ws us h1 h2 h3
    simp only [partsA1, Option.some.injEq] at h1
    subst h1
    simp only [fillV, Option.some.injEq] at h2
    subst h2
    exact ⟨us, rfl, h3⟩
  | cons p parts ih =>
    intro ps vs ws us h1 h2 h3
    obtain ⟨i, x⟩ := p
    simp only [partsA1] at h1
    split at h1
    · rename_i y ys hy hys
      simp only [Option.some.injEq] at h1
      subst h1
      simp only [fillV] at h2
      split at h2
      · rename_i cs hcs
        split at h2
        · rename_i hle
          have hv := (opd_rel he hy).toCR hcs
          obtain ⟨xs, hx, hr⟩ := ih _ _ _ _ hys h2 (h3.splice hv (by omega))
          refine ⟨xs, ?_, hr⟩
          simp only [List.map_cons, Instr.fill, hp i]
          rw [if_neg]
          · exact hx
          · have h4 := hv.1
            have h5 := h3.1
            simp only [Bool.or_eq_true, decide_eq_true_eq, not_or, ne_eq, Decidable.not_not]
            omega
        · cases h2
      · cases h2
    · cases h1
theorem sound_buildA {t q : TypeId} {m : Nat} {parts : Array (Nat × Operand)} {i : TypeInfo} {vs : List V} {ps : List (Nat × Nat × Opd)} (ho : o.op = .build t parts) (ht : P.underlying t = some (.array m q)) (hti : P.info? t = some i) (hz : i.zero.bind V.ofVal = some (.agg vs))
    (hok : vs.all V.cellOk = true) (hp : partsA1 parts.toList = some ps) (hsz : sizeT P q = some 1) (he : Slots ρ S w e a) (hi : Inv ρ S w) (h : opV e S (.build vs ps) = some v) : Yields P o a ρ S w v := by
  simp only [opV, Option.map_eq_some_iff] at h
  obtain ⟨ws, h, rfl⟩ := h
  simp only [Option.bind_eq_some_iff] at hz
  obtain ⟨z, hz, hv⟩ := hz
  have h0 := (V.ofVal_rel (ρ := ρ) (S := S) (w := w) hv false).toCR (show (V.agg vs).cells? = some vs by simp only [V.cells?, hok, if_true])
  obtain ⟨xs, hx, hr⟩ := fill_partsA (place := fun i => some (i * 1, 1)) (fun i => by rw [Nat.mul_one]) he _ _ _ _ _ hp h h0
  refine Yields.same hi (u := .agg xs) ?_ (.agg' hr.1 fun j y hj => let ⟨x, h1, h2, _⟩ := hr.2 j y hj; ⟨x, h1, h2⟩)
  have hx' : Instr.fill (fun i => some (i * 1, 1)) z.cells (parts.map fun x => (x.fst, a.eval x.snd)).toList = some xs := by
    rw [← hx]; simp
  simp only [execOp, ho, Sem.run_bind, Instr.build, zeroValue, typeInfo, run_program, Result.andThen_ok, hti, hz, Sem.run_pure, run_underlying ht, run_sizeT hsz, hx']
theorem add_zero_addr (p : Option Addr) : p.map (·.add 0) = p := by cases p <;> simp [Addr.add]
theorem run_sl3 {o : Oper} {a : Act} {x h m : Operand} {t q : TypeId} {n : Nat} (ho : o.op = .slice t x none (some h) (some m)) (ht : P.underlying t = some (.slice q)) (hz : sizeT P q = some n) {p : Option Addr} {len cap : Nat} {k k' : IntKind} {b c : Int}
    (e1 : a.eval x = .slice p len cap) (e2 : a.eval h = .int k b) (e3 : a.eval m = .int k' c) (h0 : 0 ≤ b) (h1 : b ≤ c) (h2 : c ≤ cap) (w : World) : (execOp a.eval o).run P w = .ok (.value (.slice p b.toNat c.toNat)) w := by
  have e4 : ((c.toNat : Nat) : Int) = c := Int.toNat_of_nonneg (by omega)
  have r1 := fun code => run_sliceBound (P := P) w k' c cap code (by omega) h2
  have r2 := fun code => run_sliceBound (P := P) w k b c.toNat code h0 (by omega)
  simp [execOp, ho, e1, e2, e3, Instr.sliceAt, Instr.slice, Instr.sliceBounds, run_underlying ht, run_sizeT hz, r1, r2, add_zero_addr]
theorem sound_sl3 {x h m : Operand} {t q : TypeId} {n : Nat} {x' h' m' : Opd} (ho : o.op = .slice t x none (some h) (some m)) (ht : P.underlying t = some (.slice q)) (hz : sizeT P q = some n) (he : Slots ρ S w e a) (hi : Inv ρ S w)
    (hx : opd x = some x') (hh : opd h = some h') (hm : opd m = some m') (hv : opV e S (.xo (.sl3 n) [x', h', m']) = some v) : Yields P o a ρ S w v := by
  have h1 := opd_rel he hx
  have h2 := opd_rel he hh
  have h3 := opd_rel he hm
  simp only [opV, evs, List.map_cons, List.map_nil, xopV] at hv
  unfold sl3V at hv
  split at hv
  · rename_i b _ c e1 e2 e3
    split at hv
    · rename_i hc
      obtain ⟨rfl, rfl⟩ := hc
      simp only [Option.some.injEq] at hv
      subst hv
      rw [e1] at h1; rw [e2] at h2; rw [e3] at h3
      have hu : a.eval x = .slice none 0 0 := by generalize a.eval x = u at h1; cases h1; rfl
      exact Yields.same hi (by simpa using run_sl3 ho ht hz hu h2.int_inv h3.int_inv (Int.le_refl _) (Int.le_refl _) (by omega) w) .nilSl
    · cases hv
  · rename_i sz' rows _ b _ c e1 e2 e3
    split at hv
    · rename_i hc
      obtain ⟨rfl, c0, c1, c2⟩ := hc
      simp only [Option.some.injEq] at hv
      subst hv
      rw [e1] at h1; rw [e2] at h2; rw [e3] at h3
      generalize hu : a.eval x = u at h1
      cases h1 with
      | @slNil _ _ pp =>
        have hr := run_sl3 ho ht hz hu h2.int_inv h3.int_inv c0 c1 (by simpa using c2) w
        have hb0 : b.toNat = 0 := by simp at c2; omega
        have hc0 : c.toNat = 0 := by simp at c2; omega
        rw [hb0, hc0] at hr
        rw [hb0]
        exact Yields.same hi hr (by simpa using VR.slNil)
      | @sl _ _ _ g off len cap cf hun hlen hcap hmax hszz hcc hvv h1c =>
        have hr := run_sl3 ho ht hz hu h2.int_inv h3.int_inv c0 c1 (by omega) w
        have hrow : ∀ (i : Nat) (r : List V), (rows.take b.toNat)[i]? = some r → rows[i]? = some r := by
          intro i r hir
          rw [List.getElem?_take] at hir
          split at hir
          · exact hir
          · cases hir
        exact Yields.same hi hr (.sl cf hun (by simp; omega) (by omega) (by omega) (fun i r hir => hszz _ r (hrow i r hir)) (fun i r hir j y hj => hcc _ r (hrow i r hir) j y hj) (fun i r hir j y hj => hvv _ r (hrow i r hir) j y hj) (fun i r hir j y hj => h1c _ r (hrow i r hir) j y hj))
    · cases hv
  · rename_i id ver off len _ b _ c e1 e2 e3
    split at hv
    · rename_i hc
      obtain ⟨hs, c0, c1, c2⟩ := hc
      simp only [Option.some.injEq] at hv
      subst hv
      rw [e1] at h1; rw [e2] at h2; rw [e3] at h3
      simp only [Option.map_eq_some_iff] at hs
      obtain ⟨⟨t', sz, rows⟩, hs, hsz'⟩ := hs
      simp only at hsz'
      subst hsz'
      obtain ⟨hle, hk⟩ := h1.msl_inv hs
      have hlt' : id < S.length := by cases h1; assumption
      have hver' : ∀ (o : Obj), S[id]? = some o → ver ≤ o.ver := by cases h1; assumption
      have fin : ∀ u, (execOp a.eval o).run P w = .ok (.value u) w → (∃ p c, u = .slice p b.toNat c) → ((ρ id = none ∧ u = .slice none 0 0 ∧ b.toNat = 0 ∧ off = 0) ∨ (∃ g tot cap, ρ id = some (g, tot) ∧ u = .slice (some ⟨g, off * sz, none⟩) b.toNat cap ∧ off + b.toNat ≤ tot ∧ b.toNat ≤ cap ∧ off + cap ≤ tot) ∨ (0 < off ∧ b.toNat = 0 ∧ ∃ p, u = .slice (some p) 0 0)) →
          Yields P o a ρ S w (.msl id ver off b.toNat) := by
        intro u hrun h6 h7
        refine Yields.same hi hrun (.msl hlt' hver' (fun e' sz2 rows2 hs2 => ?_) h6)
        rw [obj_some hs] at hs2
        simp only [Option.some.injEq, Obj.mk.injEq, Cont.arr.injEq, true_and] at hs2
        obtain ⟨_, rfl, rfl⟩ := hs2
        exact ⟨by omega, h7⟩
      rcases hk with ⟨hr0, hu, hl0, ho0⟩ | ⟨g, tot, cap, hg, hu, htot, hlc, hct⟩ | ⟨hoff, hl0, p, hu⟩
      · have hb0 : b = 0 := by omega
        have hc0 : c = 0 := by omega
        subst hb0 hc0
        exact fin _ (run_sl3 ho ht hz hu h2.int_inv h3.int_inv (Int.le_refl _) (Int.le_refl _) (by omega) w) ⟨_, _, rfl⟩ (.inl ⟨hr0, rfl, rfl, ho0⟩)
      · exact fin _ (run_sl3 ho ht hz hu h2.int_inv h3.int_inv c0 c1 (by omega) w) ⟨_, _, rfl⟩ (.inr (.inl ⟨g, tot, c.toNat, hg, rfl, by omega, by omega, by omega⟩))
      · have hb0 : b = 0 := by omega
        have hc0 : c = 0 := by omega
        subst hb0 hc0
        exact fin _ (run_sl3 ho ht hz hu h2.int_inv h3.int_inv (Int.le_refl _) (Int.le_refl _) (by omega) w) ⟨_, _, rfl⟩ (.inr (.inr ⟨hoff, rfl, p, rfl⟩))
    · cases hv
  · cases hv
theorem sound_s2b {x : Operand} {src dst q : TypeId} {x' : Opd} (ho : o.op = .convert src dst x) (hs : P.underlying src = some .string) (hd : P.underlying dst = some (.slice q)) (hq : P.underlying q = some (.int .u8)) (he : Slots ρ S w e a) (hi : Inv ρ S w)
    (hx : opd x = some x') (h : opV e S (.xo .s2b [x']) = some v) : Yields P o a ρ S w v := by
  have h1 := opd_rel he hx
  simp only [opV, evs, List.map_cons, List.map_nil, xopV] at h
  unfold s2bV at h
  split at h
  · rename_i l e1
    simp only [Option.some.injEq] at h
    subst h
    rw [e1] at h1
    generalize hu : a.eval x = u at h1
    cases h1 with
    | @str _ _ s hsl hm =>
      have hrun : (execOp a.eval o).run P w = .ok (.value (.slice (some ⟨w.heap.size, 0, none⟩) s.size (grownCap w s.size 0 q))) (Lib.bytesWorld w q s) := by
        simp only [execOp, ho, hu, Sem.run_bind, Lib.run_convert_string_bytes w src dst q s hs hd hq, Result.andThen_ok, Sem.run_pure]
      have hcells : ∀ j, j < s.size → (Lib.bytesWorld w q s).cell? ⟨w.heap.size, j, none⟩ = some (.int .u8 (s.data.toList.getD j 0).toNat) := fun j hj => Lib.bytesWorld_cell w q s j hj
      have hex : Ext ρ S w ρ S (Lib.bytesWorld w q s) := by
        refine ⟨rfl, ⟨rfl, fun _ => Nat.le_succ _⟩, rfl, by rw [Lib.bytesWorld_size]; omega, fun g hg => ⟨⟨by rw [Lib.bytesWorld_size]; have := hg.1; omega, hg.2⟩, Lib.bytesWorld_at_old w q s g hg.1⟩, Nat.le_refl _, fun id o o' h h' => ?_⟩
        rw [h] at h'; cases h'; exact ⟨Nat.le_refl _, fun _ c hc => ⟨c, hc, Cont.like_refl c, rfl⟩⟩
      have hinv : Inv ρ S (Lib.bytesWorld w q s) := by
        refine ⟨fun id ver e sz rows hs => ?_, hi.inj, maps_of hi hex (fun id ver rows hs => ⟨hs, rfl⟩) (fun id ver rows g hs hg => Lib.bytesWorld_at_old w q s g (hi.block hs rfl hg)), tab_of hi hex⟩
        obtain ⟨h1, h2⟩ := hi.rows id ver e sz rows hs
        refine ⟨h1, ?_⟩
        rcases h2 with h2 | ⟨g, tot, cur, a, b, c, d, f, h⟩
        · exact .inl h2
        · refine .inr ⟨g, tot, cur, a, b, c, ?_, f, fun i r hir j v hj => ?_⟩
          · rw [Lib.bytesWorld_at_old w q s g (Array.getElem?_eq_some_iff.1 d).1]; exact d
          · obtain ⟨u, x, y, z⟩ := h i r hir j v hj
            exact ⟨u, x, y.ext hex, z⟩
      have hsz : s.size = l.length := by rw [← hsl, Array.length_toList]; rfl
      have hrow : ∀ (i : Nat) (r : List V), (l.map fun b : UInt8 => [V.int .u8 (b.toNat : Nat)])[i]? = some r → i < s.size ∧ r = [V.int .u8 ((s.data.toList.getD i 0).toNat : Nat)] := fun i r hr => by
        rw [List.getElem?_map, Option.map_eq_some_iff] at hr
        obtain ⟨b, hb, rfl⟩ := hr
        have hlt := (List.getElem?_eq_some_iff.1 hb).1
        refine ⟨by omega, ?_⟩
        rw [hsl, List.getD_eq_getElem?_getD, hb]
        rfl
      refine ⟨_, _, hrun, .sl (fun i _ => .int .u8 ((s.data.toList.getD i 0).toNat : Nat)) ⟨by rw [Lib.bytesWorld_size]; exact Nat.lt_succ_self _, fun id o c g' tot ho' hc hr => by have := hi.block ho' hc hr; omega⟩ (by rw [List.length_map, hsz]) (grownCap_ge w s.size 0 q) (grownCap_le_maxLen w s.size 0 q hm) (fun i r hr => by rw [(hrow i r hr).2]; rfl) (fun i r hr j y hj => ?_) (fun i r hr j y hj => ?_) (fun i r hr j y hj => ?_), hex, hinv⟩
      · obtain ⟨h5, rfl⟩ := hrow i r hr
        match j, hj with
        | 0, hj =>
          have := hcells i h5
          simpa using this
      · obtain ⟨h5, rfl⟩ := hrow i r hr
        match j, hj with
        | 0, hj => cases hj; exact .int
      · rfl
  · cases h
theorem compX_sound (hc : compX P o = ao) (he : Slots ρ S w e a) (hi : Inv ρ S w) (h : opV e S ao = some v) : Yields P o a ρ S w v := by
  have no : ∀ {ao : AOp}, AOp.xo .stuck [] = ao → opV e S ao = some v → Yields P o a ρ S w v := by
    intro ao h1 h2
    subst h1
    rw [stuck_none] at h2
    cases h2
  unfold compX at hc
  split at hc
  · rename_i op t x y t' ho
    split at hc
    · rename_i u x' y' ht hx hy
      split at hc
      · rename_i j hj
        split at hc
        · exact no hc h
        · rename_i hz; subst hc; exact sound_eqP (neg := false) rfl ho ht hj hz he hi hx hy h
      · rename_i j hj
        split at hc
        · exact no hc h
        · rename_i hz; subst hc; exact sound_eqP (neg := true) rfl ho ht hj hz he hi hx hy h
      · exact no hc h
    · rename_i fs x' y' ht hx hy
      split at hc
      · rename_i l hl hg; subst hc; exact sound_eqA (neg := false) rfl ho hl hg he hi hx hy h
      · rename_i l hl hg; subst hc; exact sound_eqA (neg := true) rfl ho hl hg he hi hx hy h
      · exact no hc h
    · rename_i n' e' x' y' ht hx hy
      split at hc
      · rename_i l hl hg; subst hc; exact sound_eqArr (neg := false) rfl ho hl hg he hi hx hy h
      · rename_i l hl hg; subst hc; exact sound_eqArr (neg := true) rfl ho hl hg he hi hx hy h
      · exact no hc h
    · exact no hc h
  · rename_i t parts ho
    split at hc
    · rename_i n' e' i' ps ht hti hps
      split at hc
      · rename_i vs hz hsz
        split at hc
        · rename_i hok
          subst hc
          exact sound_buildA ho ht hti hz hok hps hsz he hi h
        · exact no hc h
      · exact no hc h
    · exact no hc h
  · rename_i t m k ok ho
    split at hc
    · rename_i kt et m' k' ht hm hk
      split at hc
      · rename_i kd z hkd hz
        subst hc
        exact sound_lk ho ht hkd hz he hi hm hk h
      · exact no hc h
    · exact no hc h
  · rename_i x ho
    split at hc
    · rename_i x' hx
      subst hc
      exact sound_ent ho he hi hx h
    · exact no hc h
  · rename_i src dst x ho
    split at hc
    · rename_i op x' hop hx
      subst hc
      rcases convX_spec hop with ⟨t, j, h1, h2, h3, h4, rfl⟩ | ⟨t, j, h1, h2, h3, h4, rfl⟩
      · exact sound_toU ho h1 h2 h3 h4 he hi hx h
      · exact sound_frU ho h1 h2 h3 h4 he hi hx h
    · rename_i x' _ hx
      split at hc
      · rename_i q hs hd
        split at hc
        · rename_i hq
          subst hc
          exact sound_s2b ho hs hd hq he hi hx h
        · exact no hc h
      · exact no hc h
    · exact no hc h
  · rename_i c ho
    split at hc
    · rename_i x hcal ha
      split at hc
      · rename_i x' hx
        subst hc
        exact sound_sdat ho hcal ha he hi hx h
      · exact no hc h
    · rename_i x hcal ha
      split at hc
      · rename_i t x' hts hx
        split at hc
        · rename_i kt et ht
          subst hc
          exact sound_lenM ho hcal ha hts ht he hi hx h
        · exact no hc h
      · exact no hc h
    · exact no hc h
  · rename_i t x hh mm ho
    split at hc
    · rename_i q x' h' m' ht hx hhh hmm
      split at hc
      · rename_i n hz
        subst hc
        exact sound_sl3 ho ht hz he hi hx hhh hmm h
      · exact no hc h
    · exact no hc h
  · exact no hc h
theorem opV_sound (hc : compOp P o = some ao) (he : Slots ρ S w e a) (hi : Inv ρ S w) (h : opV e S ao = some v) : Yields P o a ρ S w v := by
  unfold compOp at hc
  split at hc
  · rename_i a' h0
    simp only [Option.some.injEq] at hc
    subst hc
    exact opV_sound0 h0 he hi h
  · simp only [Option.some.injEq] at hc
    exact compX_sound hc he hi h
end
end Go.AL
