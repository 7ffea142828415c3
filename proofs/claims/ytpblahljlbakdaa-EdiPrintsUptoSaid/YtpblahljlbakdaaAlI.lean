/- Further operations. -/
import Derived.Test.YtpblahljlbakdaaAl5
import Derived.Lib.Builder
import Derived.Lib.UnsafeStr
namespace Go.AL
section
variable {P : Program} {o : Oper} {a : Act} {ρ : Place} {S : Store} {w : World} {e : Nat → V} {v : V} {ao : AOp}

theorem lies_self {t : TypeId} {s tot row : Nat} (hs : P.cellsOf t = s) (h0 : s ≠ 0) (hr : row < tot) : liesAt P P.depth t tot (row * s) t 1 = true := by
  have hd : P.depth = (2 * (P.types.size + Made.depth) + 1) + 1 := rfl
  have hl : sameLayout P P.depth t t = true := by rw [hd]; simp [sameLayout]
  rw [hd, liesAt]
  have : rowAt P (fun x => sameLayout P P.depth x t) P.depth t tot (row * s) 1 = true := by
    generalize hf : (fun x => sameLayout P P.depth x t) = f
    have hft : f t = true := by rw [← hf]; exact hl
    rw [hd, rowAt]
    simp only [hs, if_neg h0]
    have h1 : row * s / s = row := Nat.mul_div_cancel _ (Nat.pos_of_ne_zero h0)
    have h2 : row * s % s = 0 := Nat.mul_mod_left _ _
    rw [h1, h2]
    simp [hft, Nat.succ_le_of_lt hr]
  rw [this, Bool.true_or]

/-- The block of an owned object. -/
theorem owned_block {id ver sz g tot : Nat} {t : TypeId} {rows : List (List V)} (hi : Inv ρ S w) (hs : S.obj? id ver = some (t, sz, rows)) (hg : ρ id = some (g, tot)) :
    ∃ cur, w.heap[g]? = some (.cells cur t (0, 0)) ∧ cur.size = tot * sz ∧ rows.length ≤ tot ∧ tot ≤ maxLen ∧ (∀ (i : Nat) (r : List V), rows[i]? = some r → r.length = sz) ∧ ∀ (i : Nat) (r : List V), rows[i]? = some r → ∀ (j : Nat) (v : V), r[j]? = some v → ∃ u, cur[i * sz + j]? = some u ∧ VR ρ S w false v u ∧ u.oneCell' = true := by
  obtain ⟨h1, h2⟩ := hi.rows id ver t sz rows (obj_some hs)
  rcases h2 with ⟨h2, _⟩ | ⟨g', tot', cur, a, b, c, d, f, k⟩
  · rw [hg] at h2; cases h2
  · rw [hg] at a
    cases a
    exact ⟨cur, d, f, b, c, h1, k⟩

theorem sound_eqP {neg : Bool} {op : BinOp} {t t' u : TypeId} {j : TypeInfo} {x y : Operand} {x' y' : Opd} (hop : op = (if neg then .neq else .eql)) (ho : o.op = .binOp op t x y t') (ht : P.underlying t = some (.pointer u)) (hu : P.info? u = some j)
    (he : Slots ρ S w e a) (hi : Inv ρ S w) (hx : opd x = some x') (hy : opd y = some y') (h : opV e S (.xo (.eqP neg) [x', y']) = some v) : Yields P o a ρ S w v := by
  have h1 := opd_rel he hx
  have h2 := opd_rel he hy
  simp only [opV, evs, List.map_cons, List.map_nil, xopV, eqPV] at h
  split at h
  · rename_i id ver row off id' ver' row' off' e1 e2
    split at h
    · rename_i hc
      obtain ⟨rfl, rfl, rfl, rfl, hsome⟩ := hc
      simp only [Option.some.injEq] at h
      subst h
      obtain ⟨⟨t0, sz, rows⟩, hs⟩ := Option.isSome_iff_exists.1 hsome
      rw [e1] at h1
      rw [e2] at h2
      obtain ⟨g, tot, p1, p2⟩ := h1.ptr_inv hs
      obtain ⟨g', tot', q1, q2⟩ := h2.ptr_inv hs
      rw [p1] at q1
      cases q1
      have hg : ∀ op w, (eqGuard op t x y (.pointer (some ⟨g, row * sz + off, none⟩)) (.pointer (some ⟨g, row * sz + off, none⟩))).run P w = .ok () w := by
        intro op w; unfold eqGuard; cases op <;> rfl
      have hn := Lib.run_neq_ptr_same (P := P) w (⟨g, row * sz + off, none⟩ : Addr) ht hu
      have heqp : (binOp .eql t (.pointer (some ⟨g, row * sz + off, none⟩)) (.pointer (some ⟨g, row * sz + off, none⟩))).run P w = .ok (.bool true) w := by
        have h : ∀ d : Nat, (Op.equalIn (d + 1) t (.pointer (some ⟨g, row * sz + off, none⟩)) (.pointer (some ⟨g, row * sz + off, none⟩))).run P w = .ok true w := fun d => by
          simp [Op.equalIn, run_underlying ht, sizeOf, typeInfo, hu, run_sameAddr_same]
        simp only [binOp]
        simp [Op.equal, Op.maxDepth, h 9999]
      refine Yields.same hi (u := .bool (!neg)) ?_ .bool
      cases neg
      · simp only [Bool.false_eq_true, if_false] at hop
        subst hop
        simp [execOp, ho, p2, q2, hg, heqp]
      · simp only [if_true] at hop
        subst hop
        simp [execOp, ho, p2, q2, hg, hn]
    · cases h
  · cases h

theorem sound_toU {src dst t : TypeId} {j : TypeInfo} {x : Operand} {x' : Opd} (ho : o.op = .convert src dst x) (hs : P.underlying src = some (.pointer t)) (hd : P.underlying dst = some .unsafePointer) (ht : P.info? t = some j) (hj : j.size ≠ 0)
    (he : Slots ρ S w e a) (hi : Inv ρ S w) (hx : opd x = some x') (h : opV e S (.xo .toU [x']) = some v) : Yields P o a ρ S w v := by
  have h1 := opd_rel he hx
  simp only [opV, evs, List.map_cons, List.map_nil, xopV, toUV] at h
  split at h
  · rename_i id ver row off e1
    rw [e1] at h1
    split at h
    · rename_i t0 sz rows hso
      split at h
      · rename_i hc
        simp only [Option.some.injEq] at h
        subst h
        obtain ⟨g, tot, p1, p2⟩ := h1.ptr_inv hso
        obtain ⟨cur, b1, b2, b3, _⟩ := owned_block hi hso p1
        rw [p2] at h1
        refine Yields.same hi (u := .pointer (some ⟨g, row * sz + off, none⟩)) ?_ h1
        have hlt : row * sz + off < tot * sz := by
          have h1 : (row + 1) * sz ≤ tot * sz := Nat.mul_le_mul_right _ (by omega)
          rw [Nat.succ_mul] at h1
          omega
        have hrun := Lib.run_to_unsafe (P := P) w (src := src) (dst := dst) (⟨g, row * sz + off, none⟩ : Addr) hs hd ht hj (e := t0) (cells := cur.size) (by simp [World.shape?, b1]) (by rw [b2]; exact hlt)
        simp [execOp, ho, p2, hrun]
      · cases h
    · cases h
  · cases h

theorem sound_frU {src dst t : TypeId} {j : TypeInfo} {x : Operand} {x' : Opd} (ho : o.op = .convert src dst x) (hs : P.underlying src = some .unsafePointer) (hd : P.underlying dst = some (.pointer t)) (ht : P.info? t = some j) (hj : j.size ≠ 0)
    (he : Slots ρ S w e a) (hi : Inv ρ S w) (hx : opd x = some x') (h : opV e S (.xo (.frU t j.size) [x']) = some v) : Yields P o a ρ S w v := by
  have h1 := opd_rel he hx
  simp only [opV, evs, List.map_cons, List.map_nil, xopV, frUV] at h
  split at h
  · rename_i id ver row off e1
    rw [e1] at h1
    split at h
    · rename_i t0 sz rows hso
      split at h
      · rename_i hc
        obtain ⟨rfl, rfl, rfl, hrow⟩ := hc
        simp only [Option.some.injEq] at h
        subst h
        obtain ⟨g, tot, p1, p2⟩ := h1.ptr_inv hso
        obtain ⟨cur, b1, b2, b3, _⟩ := owned_block hi hso p1
        rw [p2] at h1
        refine Yields.same hi (u := .pointer (some ⟨g, row * j.size + 0, none⟩)) ?_ h1
        have hce : P.cellsOf t0 = j.size := by simp [Program.cellsOf, ht]
        have hrun := Lib.run_from_unsafe (P := P) w (src := src) (dst := dst) (⟨g, row * j.size + 0, none⟩ : Addr) hs hd ht (e := t0) (cells := cur.size) (by simp [World.shape?, b1]) (by
          rw [b2, hce, Nat.mul_div_cancel _ (Nat.pos_of_ne_zero hj)]
          exact lies_self hce hj (by omega))
        simp only [execOp, ho, p2, Sem.run_bind, hrun, Result.andThen_ok, Sem.run_pure]
      · cases h
    · cases h
  · cases h

theorem sound_sdat {c : Call} {x : Operand} {x' : Opd} (ho : o.op = .call c) (hc : c.callee = .builtin .unsafeSliceData) (ha : c.args.toList = [x]) (he : Slots ρ S w e a) (hi : Inv ρ S w) (hx : opd x = some x')
    (h : opV e S (.xo .sdat [x']) = some v) : Yields P o a ρ S w v := by
  have h1 := opd_rel he hx
  have ha' : c.args = #[x] := by rw [← ha]
  simp only [opV, evs, List.map_cons, List.map_nil, xopV, sdatV] at h
  split at h
  · rename_i heq2
    rw [heq2] at h1
    simp only [Option.some.injEq] at h
    subst h
    have hus : a.eval x = .slice none 0 0 := by generalize a.eval x = u at h1; cases h1; rfl
    refine Yields.same hi (u := .pointer none) ?_ .nilPtr
    simp [execOp, ho, hc, ha', hus, resolve, invoke, builtin, Lib.run_unsafeSliceData_nil]
  · rename_i id ver off len heq2
    rw [heq2] at h1
    split at h
    · rename_i hcd
      simp only [Option.some.injEq] at h
      subst h
      obtain ⟨⟨t0, sz, rows⟩, hso⟩ := Option.isSome_iff_exists.1 hcd.2
      obtain ⟨m1, m2⟩ := h1.msl_inv hso
      rcases m2 with ⟨_, _, h0, _⟩ | ⟨g, tot, p1, p2, p3⟩ | ⟨_, h0, _⟩
      · omega
      · refine Yields.same hi (u := .pointer (some ⟨g, off * sz, none⟩)) ?_ ?_
        · simp [execOp, ho, hc, ha', p2, resolve, invoke, builtin, Lib.run_unsafeSliceData_row (P := P) (w := w) _ _ ⟨g, off * sz, none⟩ len (tot - off) (by omega)]
        · rw [p2] at h1
          cases h1 with
          | msl hlt hver hh _ =>
            refine .ptr hlt hver (fun e s rs hs => ⟨g, tot, p1, ?_⟩) rfl
            have hs2 := obj_some hso
            rw [hs2] at hs
            cases hs
            rfl
      · omega
    · cases h
  · cases h

theorem convX_spec {src dst : TypeId} {op : XOp} (h : convX P src dst = some op) :
    (∃ t j, P.underlying src = some (.pointer t) ∧ P.underlying dst = some .unsafePointer ∧ P.info? t = some j ∧ j.size ≠ 0 ∧ op = .toU) ∨
    (∃ t j, P.underlying src = some .unsafePointer ∧ P.underlying dst = some (.pointer t) ∧ P.info? t = some j ∧ j.size ≠ 0 ∧ op = .frU t j.size) := by
  unfold convX at h
  split at h
  · rename_i t hs hd
    split at h
    · rename_i j hj
      split at h
      · cases h
      · rename_i h0
        simp only [Option.some.injEq] at h
        exact .inl ⟨t, j, hs, hd, hj, h0, h.symm⟩
    · cases h
  · rename_i t hs hd
    split at h
    · rename_i j hj
      split at h
      · cases h
      · rename_i h0
        simp only [Option.some.injEq] at h
        exact .inr ⟨t, j, hs, hd, hj, h0, h.symm⟩
    · cases h
  · cases h

theorem stuck_none {l : List Opd} : opV e S (.xo .stuck l) = none := by
  simp only [opV, xopV]

theorem compX_sound (hc : compX P o = ao) (he : Slots ρ S w e a) (hi : Inv ρ S w) (h : opV e S ao = some v) : Yields P o a ρ S w v := by
  have no : ∀ {ao : AOp}, AOp.xo .stuck [] = ao → opV e S ao = some v → Yields P o a ρ S w v := by
    intro ao h1 h2
    subst h1
    rw [stuck_none] at h2
    cases h2
  unfold compX at hc
  split at hc
  · rename_i op t x y t' ho
    split at hc
    · rename_i u x' y' ht hx hy
      split at hc
      · rename_i j hj; subst hc; exact sound_eqP (neg := false) rfl ho ht hj he hi hx hy h
      · rename_i j hj; subst hc; exact sound_eqP (neg := true) rfl ho ht hj he hi hx hy h
      · exact no hc h
    · exact no hc h
  · rename_i src dst x ho
    split at hc
    · rename_i op x' hop hx
      subst hc
      rcases convX_spec hop with ⟨t, j, h1, h2, h3, h4, rfl⟩ | ⟨t, j, h1, h2, h3, h4, rfl⟩
      · exact sound_toU ho h1 h2 h3 h4 he hi hx h
      · exact sound_frU ho h1 h2 h3 h4 he hi hx h
    · exact no hc h
  · rename_i c ho
    split at hc
    · rename_i x hcal ha
      split at hc
      · rename_i x' hx
        subst hc
        exact sound_sdat ho hcal ha he hi hx h
      · exact no hc h
    · exact no hc h
  · exact no hc h

theorem opV_sound (hc : compOp P o = some ao) (he : Slots ρ S w e a) (hi : Inv ρ S w) (h : opV e S ao = some v) : Yields P o a ρ S w v := by
  unfold compOp at hc
  split at hc
  · rename_i a' h0
    simp only [Option.some.injEq] at hc
    subst hc
    exact opV_sound0 h0 he hi h
  · simp only [Option.some.injEq] at hc
    exact compX_sound hc he hi h
end
end Go.AL
