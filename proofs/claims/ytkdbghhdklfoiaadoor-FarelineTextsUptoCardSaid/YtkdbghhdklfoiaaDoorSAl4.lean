/- Struct literals, boxes, slice literals, cuts of strings. -/
import Derived.Test.YtkdbghhdklfoiaaDoorSAl3
import Derived.Laws.BytesArg
namespace Go.AL
set_option linter.unusedSectionVars false
variable [Mode]
theorem V.allImm_get : ∀ {vs : List V}, V.allImm vs = true → ∀ (j : Nat) (v : V), vs[j]? = some v → v.isImm = true
  | [], _, j, v, h => by simp at h
  | x :: r, h, j, v, hj => by
    simp only [V.allImm, Bool.and_eq_true] at h
    cases j with
    | zero => simp at hj; subst hj; exact h.1
    | succ j => simp at hj; exact V.allImm_get h.2 j v hj
theorem VR.toImm {ρ : Place} {S : Store} {w : World} {b : Bool} {v : V} {u : Value} (h : VR ρ S w b v u) : v.isImm = true → ∀ b', VR ρ S w b' v u := by
  induction h with
  | undef => exact fun _ _ => .undef
  | skipped => exact fun _ _ => .skipped
  | int => exact fun _ _ => .int
  | bool => exact fun _ _ => .bool
  | str h1 h2 => exact fun _ _ => .str h1 h2
  | nilSl => exact fun _ _ => .nilSl
  | slNil => exact fun _ _ => .slNil
  | sl c hu hlen hcap hmax hsz hc hv h1 ih => exact fun _ _ => .sl c hu hlen hcap hmax hsz hc hv h1
  | msl => intro h; cases h
  | nilPtr => exact fun _ _ => .nilPtr
  | cptr c hu hc hv h1 ih => exact fun _ _ => .cptr c hu hc hv h1
  | ptr => intro h; cases h
  | func c d hl hm hc hv hd hw ih1 ih2 =>
    intro h b'
    simp only [V.isImm, Bool.and_eq_true] at h
    exact .func c d hl hm hc (fun j v hj => ih1 j v hj (V.allImm_get h.1 j v hj) b') hd (fun j v hj => ih2 j v hj (V.allImm_get h.2 j v hj) b')
  | nilFn => exact fun _ _ => .nilFn
  | iface h ih => exact fun h b' => .iface (ih h b')
  | nilIface => exact fun _ _ => .nilIface
  | agg c hl hc hv ih => exact fun h b' => .agg c hl hc fun j v hj => ih j v hj (V.allImm_get h j v hj) b'
  | tup c hl hc hv ih => exact fun h b' => .tup c hl hc fun j v hj => ih j v hj (V.allImm_get h j v hj) b'
  | nilMap => exact fun _ _ => .nilMap
  | mapv => intro hm; simp [V.isImm] at hm
section
variable {P : Program} {o : Oper} {a : Act} {ρ : Place} {S : Store} {w : World} {e : Nat → V} {v : V}
theorem sound_boxI {x : Operand} {t : TypeId} {x' : Opd} {vs : List V} (ho : o.op = .box t x) (he : Slots ρ S w e a) (hi : Inv ρ S w) (hx : opd x = some x') (hc : (ev e x').cells? = some vs) (hm : V.allImm vs = true) : Yields P o a ρ S w (.cptr vs) := by
  have h1 := opd_rel he hx
  obtain ⟨hs, hg⟩ := h1.cells hc
  have hex := Ext.alloc ρ S w (.cells (a.eval x).cells t)
  refine ⟨.pointer (some ⟨w.heap.size, 0, none⟩), w.alloc (.cells (a.eval x).cells t), by simp [execOp, ho, Instr.box, newVar, newRow], ?_, hex, hi.alloc _⟩
  refine .cptr (fun j => ((a.eval x).cells[j]?).getD Go.undef) (Unowned.new hi _) (fun j y hj => ?_) (fun j y hj => ?_) (fun j y hj => ?_)
  · obtain ⟨u, hu, _⟩ := hg j y hj
    rw [World.cell?_alloc_new, Nat.zero_add, hu]
    rfl
  · obtain ⟨u, hu, hr, _⟩ := hg j y hj
    simp only [hu, Option.getD_some]
    exact (hr.ext hex).toImm (V.allImm_get hm j y hj) true
  · obtain ⟨u, hu, _, h1⟩ := hg j y hj
    simp only [hu, Option.getD_some]
    exact h1
def CR (ρ : Place) (S : Store) (w : World) (vs : List V) (us : Array Value) : Prop := us.size = vs.length ∧ ∀ (j : Nat) (y : V), vs[j]? = some y → ∃ x, us[j]? = some x ∧ VR ρ S w false y x ∧ x.oneCell' = true
theorem foldl_set (cs : Array Value) : ∀ (l : List Value) (off k : Nat) (us : Array Value), cs = us → off + k + l.length ≤ us.size →
    ((l.zipIdx k).foldl (fun cs (p : Value × Nat) => cs.setIfInBounds (off + p.2) p.1) us).size = us.size ∧
    ∀ j, ((l.zipIdx k).foldl (fun cs (p : Value × Nat) => cs.setIfInBounds (off + p.2) p.1) us)[j]? = if off + k ≤ j ∧ j < off + k + l.length then l[j - (off + k)]? else us[j]? := by
  intro l
  induction l generalizing cs with
  | nil =>
    intro off k us _ _
    refine ⟨by simp, fun j => ?_⟩
    rw [if_neg (by simp)]
    simp
  | cons x l ih =>
    intro off k us _ hle
    simp only [List.length_cons] at hle
    simp only [List.zipIdx_cons, List.foldl_cons]
    obtain ⟨h1, h2⟩ := ih _ off (k + 1) (us.setIfInBounds (off + k) x) rfl (by simp; omega)
    refine ⟨by rw [h1]; simp, fun j => ?_⟩
    rw [h2 j]
    by_cases hj : off + k = j
    · subst hj
      rw [if_neg (by omega), if_pos (by have hlc : (x :: l).length = l.length + 1 := rfl; omega)]
      rw [Array.getElem?_setIfInBounds]
      simp [show off + k < us.size by omega]
    · by_cases hr : off + (k + 1) ≤ j ∧ j < off + (k + 1) + l.length
      · rw [if_pos hr, if_pos (by have hlc : (x :: l).length = l.length + 1 := rfl; omega)]
        have : j - (off + k) = (j - (off + (k + 1))) + 1 := by omega
        rw [this]
        simp
      · rw [if_neg hr, if_neg (by have hlc : (x :: l).length = l.length + 1 := rfl; omega), Array.getElem?_setIfInBounds_ne hj]
theorem CR.splice {vs ws : List V} {us xs : Array Value} {off : Nat} (h : CR ρ S w vs us) (k : CR ρ S w ws xs) (hle : off + ws.length ≤ vs.length) :
    CR ρ S w (splice vs off ws) (xs.zipIdx.foldl (fun cs (p : Value × Nat) => cs.setIfInBounds (off + p.2) p.1) us) := by
  have hx : xs.zipIdx.foldl (fun cs (p : Value × Nat) => cs.setIfInBounds (off + p.2) p.1) us = (xs.toList.zipIdx 0).foldl (fun cs (p : Value × Nat) => cs.setIfInBounds (off + p.2) p.1) us := by
    rw [← Array.foldl_toList, Array.toList_zipIdx]
  obtain ⟨h1, h2⟩ := foldl_set us xs.toList off 0 us rfl (by rw [Array.length_toList, k.1, h.1]; omega)
  rw [hx]
  refine ⟨by rw [h1, h.1]; simp [AL.splice]; omega, fun j y hj => ?_⟩
  rw [h2 j, Array.length_toList, k.1]
  have hlen : (vs.take off ++ ws).length = off + ws.length := by simp; omega
  simp only [AL.splice] at hj
  by_cases hc : off + 0 ≤ j ∧ j < off + 0 + ws.length
  · rw [if_pos hc]
    rw [List.getElem?_append_left (by omega), List.getElem?_append_right (by simp; omega)] at hj
    simp only [List.length_take] at hj
    have : j - min off vs.length = j - (off + 0) := by omega
    rw [this] at hj
    obtain ⟨x, h3, h4⟩ := k.2 _ y hj
    exact ⟨x, by simpa using h3, h4⟩
  · rw [if_neg hc]
    by_cases hj2 : j < off
    · rw [List.getElem?_append_left (by omega), List.getElem?_append_left (by simp; omega), List.getElem?_take, if_pos hj2] at hj
      exact h.2 j y hj
    · rw [List.getElem?_append_right (by omega), hlen, List.getElem?_drop] at hj
      have : off + ws.length + (j - (off + ws.length)) = j := by omega
      rw [this] at hj
      exact h.2 j y hj
theorem VR.toCR {v : V} {u : Value} {vs : List V} (h : VR ρ S w false v u) (hc : v.cells? = some vs) : CR ρ S w vs u.cells := h.cells hc
def placeOk (P : Program) (fields : Array Field) (place : Nat → Option (Nat × Nat)) : Prop := ∀ i f n, fields[i]? = some f → sizeT P f.type = some n → place i = some (f.offset, n)
theorem fill_parts {fields : Array Field} {place : Nat → Option (Nat × Nat)} (hp : placeOk P fields place) (he : Slots ρ S w e a) : ∀ (parts : List (Nat × Operand)) (ps : List (Nat × Nat × Opd)) (vs ws : List V) (us : Array Value),
    partsV P fields parts = some ps → fillV e vs ps = some ws → CR ρ S w vs us → ∃ xs, Instr.fill place us (parts.map fun p => (p.1, a.eval p.2)) = some xs ∧ CR ρ S w ws xs := by
  intro parts
  induction parts with
  | nil =>
    intro ps vs ws us h1 h2 h3
    simp only [partsV, Option.some.injEq] at h1
    subst h1
    simp only [fillV, Option.some.injEq] at h2
    subst h2
    exact ⟨us, rfl, h3⟩
  | cons p parts ih =>
    intro ps vs ws us h1 h2 h3
    obtain ⟨i, x⟩ := p
    simp only [partsV] at h1
    split at h1
    · rename_i f y ys hf hy hys
      split at h1
      · rename_i n hn
        simp only [Option.some.injEq] at h1
        subst h1
        simp only [fillV] at h2
        split at h2
        · rename_i cs hcs
          split at h2
          · rename_i hle
            have hv := (opd_rel he hy).toCR hcs
            obtain ⟨xs, hx, hr⟩ := ih _ _ _ _ hys h2 (h3.splice hv (by omega))
            refine ⟨xs, ?_, hr⟩
            simp only [List.map_cons, Instr.fill, hp i f n hf hn]
            rw [if_neg]
            · exact hx
            · have h4 := hv.1
              have h5 := h3.1
              simp only [Bool.or_eq_true, decide_eq_true_eq, not_or, ne_eq, Decidable.not_not]
              omega
          · cases h2
        · cases h2
      · cases h1
    · cases h1
theorem run_sizeT {t : TypeId} {n : Nat} (h : sizeT P t = some n) (w : World) : (sizeOf t).run P w = .ok n w := by
  obtain ⟨i, hi, hs⟩ := sizeT_some h
  simp [sizeOf, typeInfo, hi, hs]
theorem places_run : ∀ (l : List Field) (w : World), (∀ f ∈ l, (sizeT P f.type).isSome = true) → (l.mapM (m := Sem) fun f => do pure (f.offset, ← sizeOf f.type)).run P w = .ok (l.map fun f => (f.offset, (sizeT P f.type).getD 0)) w := by
  intro l
  induction l with
  | nil => intro w _; rfl
  | cons f l ih =>
    intro w h
    obtain ⟨n, hn⟩ := Option.isSome_iff_exists.1 (h f (by simp))
    have := ih w (fun g hg => h g (by simp [hg]))
    simp only [List.mapM_cons, Sem.run_bind, run_sizeT hn, Result.andThen_ok, Sem.run_pure, this, List.map_cons, hn, Option.getD_some]
theorem sound_build {t : TypeId} {parts : Array (Nat × Operand)} {fields : Array Field} {i : TypeInfo} {z : Value} {vs ws : List V} {ps : List (Nat × Nat × Opd)} (ho : o.op = .build t parts) (ht : P.underlying t = some (.struct fields)) (hti : P.info? t = some i) (hz : i.zero = some z)
    (hv : V.ofVal z = some (.agg vs)) (hcz : (V.agg vs).cells? = some vs) (hp : partsV P fields parts.toList = some ps) (hall : fields.all (fun f => (sizeT P f.type).isSome) = true) (he : Slots ρ S w e a) (hi : Inv ρ S w) (h : fillV e vs ps = some ws) : Yields P o a ρ S w (.agg ws) := by
  have h0 := (V.ofVal_rel (ρ := ρ) (S := S) (w := w) hv false).toCR hcz
  have hpl := places_run (P := P) fields.toList w (fun f hf => by rw [Array.all_eq_true_iff_forall_mem] at hall; exact hall f (Array.mem_toList_iff.1 hf))
  have hok : placeOk P fields (fun i => ((fields.toList.map fun f => (f.offset, (sizeT P f.type).getD 0)).toArray)[i]?) := by
    intro i f n hf hn
    simp [hf, hn]
  obtain ⟨xs, hx, hr⟩ := fill_parts hok he _ _ _ _ _ hp h h0
  refine Yields.same hi (u := .agg xs) ?_ (.agg' hr.1 fun j y hj => let ⟨x, h1, h2, _⟩ := hr.2 j y hj; ⟨x, h1, h2⟩)
  have hm : (fields.mapM (m := Sem) fun f => do pure (f.offset, ← sizeOf f.type)).run P w = .ok ((fields.toList.map fun f => (f.offset, (sizeT P f.type).getD 0)).toArray) w := by
    rw [Array.mapM_eq_mapM_toList]
    simp only [Sem.run_map, hpl, Result.andThen_ok]
  have hx' : Instr.fill (fun i => ((fields.toList.map fun f => (f.offset, (sizeT P f.type).getD 0)).toArray)[i]?) z.cells (parts.map fun x => (x.fst, a.eval x.snd)).toList = some xs := by
    rw [← hx]; simp
  simp only [execOp, ho, Sem.run_bind, Instr.build, zeroValue, typeInfo, run_program, Result.andThen_ok, hti, hz, Sem.run_pure, run_underlying ht, hm, hx']
theorem oopd_val {x : Option Operand} {y : Option Opd} (he : Slots ρ S w e a) (h : oopd x = some y) {d : Nat} {n : Int} (hb : bound e d y = some n) : (x = none ∧ n = d) ∨ ∃ z k, x = some z ∧ a.eval z = .int k n := by
  cases x with
  | none =>
    simp only [oopd, Option.some.injEq] at h
    subst h
    simp only [bound, Option.some.injEq] at hb
    exact .inl ⟨rfl, hb.symm⟩
  | some z =>
    simp only [oopd, Option.map_eq_some_iff] at h
    obtain ⟨q, hq, rfl⟩ := h
    simp only [bound] at hb
    split at hb
    · rename_i k m hm
      simp only [Option.some.injEq] at hb
      subst hb
      have := opd_rel he hq
      rw [hm] at this
      exact .inr ⟨z, k, rfl, this.int_inv⟩
    · cases hb
theorem bounds_run {isS : Bool} {len cap : Nat} {lo hi : Option Operand} {b c : Int} (hl : (lo = none ∧ b = (0 : Nat)) ∨ ∃ z k, lo = some z ∧ a.eval z = .int k b) (hh : (hi = none ∧ c = len) ∨ ∃ z k, hi = some z ∧ a.eval z = .int k c)
    (h0 : 0 ≤ b) (h1 : b ≤ c) (h2 : c ≤ cap) (w : World) : (Instr.sliceBounds isS len cap (lo.map a.eval) (hi.map a.eval) none).run P w = .ok (b.toNat, c.toNat, cap) w := by
  have e2 : ((c.toNat : Nat) : Int) = c := Int.toNat_of_nonneg (by omega)
  rcases hl with ⟨rfl, rfl⟩ | ⟨z, k, rfl, hz⟩ <;> rcases hh with ⟨rfl, rfl⟩ | ⟨z', k', rfl, hz'⟩
  · simp [Instr.sliceBounds]
  · simp [Instr.sliceBounds, hz', run_sliceBound w k' c cap _ (by omega) h2]
  · simp only [Instr.sliceBounds, Option.map_none, Option.map_some, hz, Sem.run_bind, Sem.run_pure, Result.andThen_ok, Option.isSome_none]
    rw [run_sliceBound w k b _ _ h0 (by omega)]
    simp
  · simp only [Instr.sliceBounds, Option.map_some, hz, hz', Sem.run_bind, Sem.run_pure, Result.andThen_ok, Option.isSome_none]
    rw [run_sliceBound w k' c cap _ (by omega) h2]
    simp only [Result.andThen_ok]
    rw [run_sliceBound w k b _ _ h0 (by omega)]
    simp
theorem sound_slS {x : Operand} {t : TypeId} {lo hi : Option Operand} {x' : Opd} {lo' hi' : Option Opd} (ho : o.op = .slice t x lo hi none) (ht : P.underlying t = some .string) (he : Slots ρ S w e a) (hi0 : Inv ρ S w)
    (hx : opd x = some x') (hl : oopd lo = some lo') (hh : oopd hi = some hi') (h : opV e S (.slS x' lo' hi') = some v) : Yields P o a ρ S w v := by
  have h1 := opd_rel he hx
  simp only [opV] at h
  split at h
  · rename_i l hxl
    rw [hxl] at h1
    obtain ⟨s, hs, hsl, hm⟩ := h1.str_inv
    have hsz : s.size = l.length := by rw [← hsl, Array.length_toList]; rfl
    split at h
    · rename_i b c hb hc
      split at h
      · rename_i hcond
        simp only [Option.some.injEq] at h
        subst h
        obtain ⟨c1, c2, c3⟩ := hcond
        have hrun := bounds_run (P := P) (a := a) (isS := false) (len := s.size) (cap := s.size) (oopd_val he hl hb) (by rw [hsz]; exact oopd_val he hh hc) c1 c2 (by omega) w
        refine Yields.same hi0 (u := .string (s.extract b.toNat c.toNat)) ?_ (.str ?_ ?_)
        · simp [execOp, ho, hs, Instr.sliceAt, Instr.slice, run_underlying ht, hrun]
        · rw [ByteArray.data_extract, Array.toList_extract, hsl]
        · have : (s.extract b.toNat c.toNat).size ≤ s.size := by simp only [ByteArray.size_extract]; omega
          omega
      · cases h
    · cases h
  · cases h
theorem sound_slA {x : Operand} {t q : TypeId} {n : Nat} {lo hi : Option Operand} {x' : Opd} {lo' hi' : Option Opd} (ho : o.op = .slice t x lo hi none) (ht : P.underlying t = some (.slice q)) (hz : sizeT P q = some n) (he : Slots ρ S w e a) (hi0 : Inv ρ S w)
    (hx : opd x = some x') (hl : oopd lo = some lo') (hh : oopd hi = some hi') (h : opV e S (.slA n x' lo' hi') = some v) : Yields P o a ρ S w v := by
  have h1 := opd_rel he hx
  have run : ∀ p len cap (b c : Int), a.eval x = .slice p len cap → bound e 0 lo' = some b → bound e len hi' = some c → 0 ≤ b → b ≤ c → c ≤ cap →
      (execOp a.eval o).run P w = .ok (.value (.slice (if cap = b.toNat then p else p.map (·.add (b.toNat * n))) (c.toNat - b.toNat) (cap - b.toNat))) w := by
    intro p len cap b c hp hb hc h0 h1 h2
    have hrun := bounds_run (P := P) (a := a) (isS := true) (len := len) (cap := cap) (oopd_val he hl hb) (oopd_val he hh hc) h0 h1 h2 w
    simp [execOp, ho, hp, Instr.sliceAt, Instr.slice, run_underlying ht, hrun, run_sizeT hz]
  simp only [opV] at h
  split at h
  · rename_i hxl
    rw [hxl] at h1
    have h2 : a.eval x = .slice none 0 0 := by generalize a.eval x = u at h1; cases h1; rfl
    split at h
    · rename_i b c hb hc
      split at h
      · rename_i hcond
        obtain ⟨rfl, rfl⟩ := hcond
        simp only [Option.some.injEq] at h
        subst h
        exact Yields.same hi0 (by simpa using run none 0 0 0 0 h2 hb hc (by omega) (by omega) (by omega)) .nilSl
      · cases h
    · cases h
  · rename_i sz' rows hxl
    rw [hxl] at h1
    split at h
    · rename_i b c hb hc
      split at h
      · rename_i hcond
        obtain ⟨rfl, h3, h4, h5⟩ := hcond
        simp only [Option.some.injEq] at h
        subst h
        generalize hu : a.eval x = u at h1
        cases h1 with
        | @slNil _ _ pp =>
          have hr := run pp 0 0 b c hu hb hc h3 h4 (by simpa using h5)
          have hb0 : b.toNat = 0 := by simp at h5; omega
          have hc0 : c.toNat = 0 := by simp at h5; omega
          rw [hb0, hc0] at hr ⊢
          exact Yields.same hi0 (by simpa using hr) (by simpa using VR.slNil)
        | @sl _ _ _ g off len cap cf hun hlen hcap hmax hszz hcc hv h1c =>
          have hr := run (some ⟨g, off, none⟩) len cap b c hu hb (by rw [hlen]; exact hc) h3 h4 (by omega)
          have hrow : ∀ (i : Nat) (r : List V), ((rows.drop b.toNat).take (c.toNat - b.toNat))[i]? = some r → rows[b.toNat + i]? = some r := by
            intro i r hir
            rw [List.getElem?_take] at hir
            split at hir
            · simpa using hir
            · cases hir
          by_cases hq : cap = b.toNat
          · rw [if_pos hq] at hr
            refine Yields.same hi0 hr ?_
            have : c.toNat - b.toNat = 0 := by omega
            rw [this, List.take_zero]
            exact .sl (fun _ _ => Go.undef) hun rfl (Nat.zero_le _) (by omega) (by simp) (by simp) (by simp) (by simp)
          · rw [if_neg hq] at hr
            simp only [Option.map_some, Addr.add_lit] at hr
            refine Yields.same hi0 hr (.sl (fun i j => cf (b.toNat + i) j) hun ?_ (by omega) (by omega) (fun i r hir => hszz _ r (hrow i r hir)) (fun i r hir j y hj => ?_) (fun i r hir j y hj => hv _ r (hrow i r hir) j y hj) (fun i r hir j y hj => h1c _ r (hrow i r hir) j y hj))
            · simp; omega
            · rw [← hcc _ r (hrow i r hir) j y hj]
              congr 2
              rw [Nat.add_mul]
              omega
      · cases h
    · cases h
  · rename_i id ver off len hxl
    rw [hxl] at h1
    split at h
    · rename_i b c hb hc
      split at h
      · rename_i hcond
        obtain ⟨hs, h3, h4, h5⟩ := hcond
        simp only [Option.some.injEq] at h
        subst h
        simp only [Option.map_eq_some_iff] at hs
        obtain ⟨⟨t', sz, rows⟩, hs, hsz'⟩ := hs
        simp only at hsz'
        subst hsz'
        obtain ⟨hle, hk⟩ := h1.msl_inv hs
        have hlt' : id < S.length := by cases h1; assumption
        have hver' : ∀ (o : Obj), S[id]? = some o → ver ≤ o.ver := by cases h1; assumption
        have fin : ∀ u, (execOp a.eval o).run P w = .ok (.value u) w → u.oneCell' = true → ((ρ id = none ∧ u = .slice none 0 0 ∧ c.toNat - b.toNat = 0 ∧ off + b.toNat = 0) ∨ (∃ g tot cap, ρ id = some (g, tot) ∧ u = .slice (some ⟨g, (off + b.toNat) * sz, none⟩) (c.toNat - b.toNat) cap ∧ off + b.toNat + (c.toNat - b.toNat) ≤ tot ∧ c.toNat - b.toNat ≤ cap ∧ off + b.toNat + cap ≤ tot) ∨ (0 < off + b.toNat ∧ c.toNat - b.toNat = 0 ∧ ∃ p, u = .slice (some p) 0 0)) →
            Yields P o a ρ S w (.msl id ver (off + b.toNat) (c.toNat - b.toNat)) := by
          intro u hrun h6 h7
          refine Yields.same hi0 hrun (.msl hlt' hver' (fun e' sz2 rows2 hs2 => ?_) (by
            rcases h7 with ⟨_, k2, k3, _⟩ | ⟨g, tot, _, _, k2, _⟩ | ⟨_, k3, p, k2⟩
            · exact ⟨none, 0, by rw [k2, k3]⟩
            · exact ⟨_, _, k2⟩
            · exact ⟨_, _, by rw [k2, k3]⟩))
          rw [obj_some hs] at hs2
          simp only [Option.some.injEq, Obj.mk.injEq, Cont.arr.injEq, true_and] at hs2
          obtain ⟨_, rfl, rfl⟩ := hs2
          exact ⟨by omega, h7⟩
        rcases hk with ⟨hr0, hu, hl0, ho0⟩ | ⟨g, tot, cap, hg, hu, htot, hlc, hct⟩ | ⟨hoff, hl0, p, hu⟩
        · have hr := run none 0 0 b c hu hb (by rw [← hl0]; exact hc) h3 h4 (by omega)
          refine fin _ hr rfl (.inl ⟨hr0, ?_, by omega, by omega⟩)
          have hb0 : b.toNat = 0 := by omega
          have hc0 : c.toNat = 0 := by omega
          rw [hb0, hc0]
          simp
        · have hr := run _ len _ b c hu hb hc h3 h4 (by omega)
          by_cases hq : cap = b.toNat
          · rw [if_pos hq] at hr
            by_cases hz0 : off + b.toNat = 0
            · refine fin _ hr rfl (.inr (.inl ⟨g, tot, cap - b.toNat, hg, ?_, by omega, by omega, by omega⟩))
              have ho0 : off = 0 := by omega
              have hb0 : b.toNat = 0 := by omega
              rw [ho0, hb0]
            · refine fin _ hr rfl (.inr (.inr ⟨by omega, by omega, ⟨g, off * sz, none⟩, ?_⟩))
              congr 1 <;> omega
          · rw [if_neg hq] at hr
            simp only [Option.map_some, Addr.add_lit] at hr
            refine fin _ hr rfl (.inr (.inl ⟨g, tot, cap - b.toNat, hg, ?_, by omega, by omega, by omega⟩))
            rw [Nat.add_mul]
        · have hr := run (some p) 0 0 b c hu hb (by rw [← hl0]; exact hc) h3 h4 (by omega)
          have hb0 : b.toNat = 0 := by omega
          have hc0 : c.toNat = 0 := by omega
          rw [hb0, hc0] at hr
          refine fin _ hr rfl (.inr (.inr ⟨by omega, by omega, ?_⟩))
          simp
      · cases h
    · cases h
  · cases h
def RR (ρ : Place) (S : Store) (w : World) (sz : Nat) (rows : List (List V)) (us : Array Value) : Prop :=
  us.size = rows.length * sz ∧ (∀ (i : Nat) (r : List V), rows[i]? = some r → r.length = sz) ∧
  ∀ (i : Nat) (r : List V), rows[i]? = some r → ∀ (j : Nat) (y : V), r[j]? = some y → ∃ x, us[i * sz + j]? = some x ∧ VR ρ S w false y x ∧ x.oneCell' = true
theorem row_lt {i j sz n : Nat} (hi : i < n) (hj : j < sz) : i * sz + j < n * sz := by
  have h := Nat.mul_le_mul_right sz (show i + 1 ≤ n from hi)
  rw [Nat.add_mul, Nat.one_mul] at h
  omega
theorem row_eq {i k j m sz : Nat} (hj : j < sz) (hm : m < sz) (h : i * sz + j = k * sz + m) : i = k ∧ j = m := by
  rcases Nat.lt_trichotomy i k with h' | h' | h'
  · have := Nat.mul_le_mul_right sz (show i + 1 ≤ k from h')
    rw [Nat.add_mul, Nat.one_mul] at this
    omega
  · subst h'
    exact ⟨rfl, by omega⟩
  · have := Nat.mul_le_mul_right sz (show k + 1 ≤ i from h')
    rw [Nat.add_mul, Nat.one_mul] at this
    omega
theorem RR.set {sz i : Nat} {rows : List (List V)} {us xs : Array Value} {ws : List V} (h : RR ρ S w sz rows us) (k : CR ρ S w ws xs) (hw : ws.length = sz) (hi : i < rows.length) :
    RR ρ S w sz (rows.set i ws) (xs.zipIdx.foldl (fun cs (p : Value × Nat) => cs.setIfInBounds (i * sz + p.2) p.1) us) := by
  have hx : xs.zipIdx.foldl (fun cs (p : Value × Nat) => cs.setIfInBounds (i * sz + p.2) p.1) us = (xs.toList.zipIdx 0).foldl (fun cs (p : Value × Nat) => cs.setIfInBounds (i * sz + p.2) p.1) us := by
    rw [← Array.foldl_toList, Array.toList_zipIdx]
  have hle : (i + 1) * sz ≤ rows.length * sz := Nat.mul_le_mul_right sz hi
  rw [Nat.add_mul, Nat.one_mul] at hle
  obtain ⟨h1, h2⟩ := foldl_set us xs.toList (i * sz) 0 us rfl (by rw [Array.length_toList, k.1, h.1]; omega)
  rw [hx]
  refine ⟨by rw [h1, h.1]; simp, fun m r hr => ?_, fun m r hr j y hj => ?_⟩
  · rw [List.getElem?_set] at hr
    split at hr
    · simp only [Option.some.injEq] at hr; rw [← hr]; exact hw
    · exact h.2.1 m r hr
  · rw [h2, Array.length_toList, k.1, hw]
    rw [List.getElem?_set] at hr
    split at hr
    · rename_i him
      simp only [Option.some.injEq] at hr
      subst hr him
      have hjl : j < sz := by rw [← hw]; exact (List.getElem?_eq_some_iff.1 hj).1
      rw [if_pos (by omega)]
      obtain ⟨x, h3, h4⟩ := k.2 j y hj
      refine ⟨x, ?_, h4⟩
      have : i * sz + j - (i * sz + 0) = j := by omega
      rw [this]
      simpa using h3
    · rename_i him
      have hjl : j < sz := by rw [← h.2.1 m r hr]; exact (List.getElem?_eq_some_iff.1 hj).1
      rw [if_neg]
      · exact h.2.2 m r hr j y hj
      · rintro ⟨a1, a2⟩
        have : m * sz + j = i * sz + (m * sz + j - i * sz) := by omega
        have := row_eq hjl (by omega) this
        omega
theorem RR.zero {sz n : Nat} {zero : List V} {z : Value} (hz : CR ρ S w zero z.cells) (hl : zero.length = sz) : RR ρ S w sz (zrows zero n) ((Array.range (n * sz)).map fun x => z.cells[x % z.cells.size]!) := by
  refine ⟨by simp [zrows], fun i r hr => ?_, fun i r hr j y hj => ?_⟩
  · simp only [zrows, List.getElem?_replicate] at hr
    split at hr
    · simp only [Option.some.injEq] at hr; rw [← hr]; exact hl
    · cases hr
  · simp only [zrows, List.getElem?_replicate] at hr
    split at hr
    · rename_i hi
      simp only [Option.some.injEq] at hr
      subst hr
      have hjl : j < sz := by rw [← hl]; exact (List.getElem?_eq_some_iff.1 hj).1
      obtain ⟨x, h3, h4⟩ := hz.2 j y hj
      have hcs : z.cells.size = sz := by rw [hz.1, hl]
      refine ⟨x, ?_, h4⟩
      have hlt := row_lt (sz := sz) hi hjl
      have hm : (i * sz + j) % sz = j := by rw [Nat.mul_add_mod_self_right, Nat.mod_eq_of_lt hjl]
      have hb : j < z.cells.size := by omega
      simp only [Array.getElem?_map, Array.getElem?_range, hlt, if_true, Option.map_some, hcs, hm]
      rw [getElem!_pos z.cells j hb]
      rw [Array.getElem?_eq_getElem hb] at h3
      simpa using h3
    · cases hr
theorem fill_rows {sz : Nat} (he : Slots ρ S w e a) : ∀ (parts : List (Nat × Operand)) (ps : List (Nat × Opd)) (rows rows' : List (List V)) (us : Array Value),
    partsR parts = some ps → fillR e sz rows ps = some rows' → RR ρ S w sz rows us →
    ∃ xs, Instr.fill (fun i => some (i * sz, sz)) us (parts.map fun p => (p.1, a.eval p.2)) = some xs ∧ RR ρ S w sz rows' xs ∧ rows'.length = rows.length := by
  intro parts
  induction parts with
  | nil =>
    intro ps rows rows' us h1 h2 h3
    simp only [partsR, Option.some.injEq] at h1
    subst h1
    simp only [fillR, Option.some.injEq] at h2
    subst h2
    exact ⟨us, rfl, h3, rfl⟩
  | cons p parts ih =>
    intro ps rows rows' us h1 h2 h3
    obtain ⟨i, x⟩ := p
    simp only [partsR] at h1
    split at h1
    · rename_i y ys hy hys
      simp only [Option.some.injEq] at h1
      subst h1
      simp only [fillR] at h2
      split at h2
      · rename_i cs hcs
        split at h2
        · rename_i hle
          have hv := (opd_rel he hy).toCR hcs
          obtain ⟨xs, hx, hr, hlen⟩ := ih _ _ _ _ hys h2 (h3.set hv hle.1 hle.2)
          refine ⟨xs, ?_, hr, by rw [hlen]; simp⟩
          simp only [List.map_cons, Instr.fill]
          rw [if_neg]
          · exact hx
          · have h4 := hv.1
            have h5 := h3.1
            have hle2 : (i + 1) * sz ≤ rows.length * sz := Nat.mul_le_mul_right sz hle.2
            rw [Nat.add_mul, Nat.one_mul] at hle2
            simp only [Bool.or_eq_true, decide_eq_true_eq, not_or, ne_eq, Decidable.not_not]
            omega
        · cases h2
      · cases h2
    · cases h1
theorem run_bsl {t q : TypeId} {n sz : Nat} {parts : Array (Nat × Operand)} {ps : List (Nat × Opd)} {i : TypeInfo} {z : Value} {zero : List V} {rows : List (List V)} (ho : o.op = .buildSlice t n parts) (ht : P.underlying t = some (.slice q)) (hti : P.info? q = some i) (hsz : i.size = sz) (hz : i.zero = some z)
    (hv : (V.ofVal z).bind V.cells? = some zero) (hl : zero.length = sz) (hp : 0 < sz) (hmax : n * sz ≤ 2 ^ 24) (hps : partsR parts.toList = some ps) (he : Slots ρ S w e a) (h : fillR e sz (zrows zero n) ps = some rows) :
    ∃ xs, (execOp a.eval o).run P w = .ok (.value (.slice (some ⟨w.heap.size, 0, none⟩) n n)) (w.alloc (.cells xs q)) ∧ RR ρ S w sz rows xs ∧ rows.length = n := by
  simp only [Option.bind_eq_some_iff] at hv
  obtain ⟨zv, hz1, hz2⟩ := hv
  have h0 : CR ρ S w zero z.cells := (V.ofVal_rel hz1 false).toCR hz2
  have hr0 := RR.zero (n := n) h0 hl
  obtain ⟨xs, hx, hr, hlen⟩ := fill_rows he _ _ _ _ _ hps h hr0
  refine ⟨xs, ?_, hr, by rw [hlen]; simp [zrows]⟩
  have hsq : (sizeOf q).run P w = .ok sz w := run_sizeT (by simp [sizeT, hti, hsz]) w
  by_cases hn : n * sz = 0
  · have hn0 : n = 0 := by
      rcases Nat.mul_eq_zero.1 hn with h | h
      · exact h
      · omega
    subst hn0
    have e0 : ∀ f : Nat → Value, (Array.range (0 * sz)).map f = #[] := fun f => by rw [Nat.zero_mul]; apply Array.eq_empty_of_size_eq_zero; simp
    rw [e0] at hx
    simp only [execOp, ho, Sem.run_bind, Instr.buildSlice, run_underlying ht, Result.andThen_ok, hsq, Nat.zero_mul, ↓reduceIte]
    have e1 : ∀ f : Nat → Value, (Array.range 0).map f = #[] := fun _ => by apply Array.eq_empty_of_size_eq_zero; simp
    simp [hx, newRow, e1]
  · simp only [execOp, ho, Sem.run_bind, Instr.buildSlice, run_underlying ht, Result.andThen_ok, hsq, hn, ↓reduceIte]
    rw [if_neg (by omega)]
    simp [zeroValue, typeInfo, hti, hz, hx, newRow]
theorem sound_bsl {t q : TypeId} {n sz : Nat} {parts : Array (Nat × Operand)} {ps : List (Nat × Opd)} {i : TypeInfo} {z : Value} {zero : List V} (ho : o.op = .buildSlice t n parts) (ht : P.underlying t = some (.slice q)) (hti : P.info? q = some i) (hsz : i.size = sz) (hz : i.zero = some z)
    (hv : (V.ofVal z).bind V.cells? = some zero) (hl : zero.length = sz) (hp : 0 < sz) (hmax : n * sz ≤ 2 ^ 24) (hps : partsR parts.toList = some ps) (he : Slots ρ S w e a) (hi : Inv ρ S w) (h : opV e S (.bsl sz zero n ps) = some v) : Yields P o a ρ S w v := by
  simp only [opV] at h
  split at h
  · rename_i rows hrows
    split at h
    · rename_i himm
      simp only [Option.some.injEq] at h
      subst h
      obtain ⟨xs, hrun, hr, hlen⟩ := run_bsl ho ht hti hsz hz hv hl hp hmax hps he hrows
      have hex := Ext.alloc ρ S w (.cells xs q)
      have hn : n ≤ maxLen := by
        have := Nat.le_mul_of_pos_right n hp
        unfold maxLen
        omega
      refine ⟨_, _, hrun, .sl (fun i j => (xs[i * sz + j]?).getD Go.undef) (Unowned.new hi _) hlen.symm (Nat.le_refl _) hn hr.2.1 (fun i r hir j y hj => ?_) (fun i r hir j y hj => ?_) (fun i r hir j y hj => ?_), hex, hi.alloc _⟩
      · obtain ⟨x, hx, _⟩ := hr.2.2 i r hir j y hj
        rw [World.cell?_alloc_new, Nat.zero_add, hx]
        rfl
      · obtain ⟨x, hx, hv, _⟩ := hr.2.2 i r hir j y hj
        simp only [hx, Option.getD_some]
        exact (hv.ext hex).toImm (V.allImm_get (List.all_eq_true.1 himm r (List.mem_of_getElem? hir)) j y hj) true
      · obtain ⟨x, hx, _, h1⟩ := hr.2.2 i r hir j y hj
        simp only [hx, Option.getD_some]
        exact h1
    · cases h
  · cases h
def RRH (ρ : Place) (S : Store) (w : World) (sz : Nat) (rows : List (List V)) (us : Array Value) : Prop :=
  (∀ (i : Nat) (r : List V), rows[i]? = some r → r.length = sz) ∧
  ∀ (i : Nat) (r : List V), rows[i]? = some r → ∀ (j : Nat) (y : V), r[j]? = some y → ∃ x, us[i * sz + j]? = some x ∧ VR ρ S w false y x ∧ x.oneCell' = true
theorem RRH.ext {sz : Nat} {rows : List (List V)} {us : Array Value} {ρ' : Place} {S' : Store} {w' : World} (h : RRH ρ S w sz rows us) (hx : Ext ρ S w ρ' S' w') : RRH ρ' S' w' sz rows us :=
  ⟨h.1, fun i r hi j y hj => let ⟨x, a, b, c⟩ := h.2 i r hi j y hj; ⟨x, a, b.ext hx, c⟩⟩
theorem RR.head {sz : Nat} {rows : List (List V)} {us : Array Value} (h : RR ρ S w sz rows us) : RRH ρ S w sz rows us := ⟨h.2.1, h.2.2⟩
theorem Inv.obj (hi : Inv ρ S w) {id ver sz : Nat} {t : TypeId} {rows : List (List V)} (hs : S[id]? = some ⟨ver, some (.arr t sz rows)⟩) {g tot : Nat} (hr : ρ id = some (g, tot)) :
    ∃ cur, rows.length ≤ tot ∧ tot ≤ maxLen ∧ w.heap[g]? = some (.cells cur t (0, 0)) ∧ cur.size = tot * sz ∧ RRH ρ S w sz rows cur := by
  obtain ⟨h1, h2⟩ := hi.rows id ver t sz rows hs
  rcases h2 with ⟨h2, _⟩ | ⟨g', tot', cur, a, b, c, d, f, k⟩
  · rw [hr] at h2; cases h2
  · rw [hr] at a
    cases a
    exact ⟨cur, b, c, d, f, h1, k⟩
def srcRows (S : Store) : V → Option (Nat × List (List V))
  | .sl sz rows => some (sz, rows)
  | .msl id ver off len => (S.obj? id ver).map fun (_, sz, rows) => (sz, (rows.drop off).take len)
  | _ => none
theorem src_cells (hi : Inv ρ S w) {v : V} {u : Value} (hv : VR ρ S w false v u) {sz : Nat} {rows : List (List V)} (h : srcRows S v = some (sz, rows)) (hp : 0 < sz) :
    (rows = [] ∧ ∃ a c, u = .slice a 0 c) ∨
    ∃ g off c, ∃ news : Array Value, u = .slice (some ⟨g, off, none⟩) rows.length c ∧ RR ρ S w sz rows news ∧ (∀ (j : Nat) (x : Value), news.toList[j]? = some x → w.cell? ((⟨g, off, none⟩ : Addr).add j) = some x) ∧ ∀ x ∈ news.toList, x.oneCell' = true := by
  have build : ∀ (g off : Nat) (rows : List (List V)), (∀ (i : Nat) (r : List V), rows[i]? = some r → r.length = sz) →
      (∀ (i : Nat) (r : List V), rows[i]? = some r → ∀ (j : Nat) (y : V), r[j]? = some y → ∃ x, w.cell? ⟨g, off + (i * sz + j), none⟩ = some x ∧ VR ρ S w false y x ∧ x.oneCell' = true) →
      ∃ news : Array Value, RR ρ S w sz rows news ∧ (∀ (j : Nat) (x : Value), news.toList[j]? = some x → w.cell? ((⟨g, off, none⟩ : Addr).add j) = some x) ∧ ∀ x ∈ news.toList, x.oneCell' = true := by
    intro g off rows hl hc
    have cell : ∀ k, k < rows.length * sz → ∃ x, w.cell? ⟨g, off + k, none⟩ = some x ∧ x.oneCell' = true := by
      intro k hk
      have h1 : k / sz < rows.length := (Nat.div_lt_iff_lt_mul hp).2 hk
      have h2 : k % sz < sz := Nat.mod_lt _ hp
      have h3 : rows[k / sz]? = some rows[k / sz] := List.getElem?_eq_getElem h1
      have h4 := hl _ _ h3
      obtain ⟨x, h5, _, h6⟩ := hc _ _ h3 (k % sz) _ (List.getElem?_eq_getElem (by omega))
      refine ⟨x, ?_, h6⟩
      have : k / sz * sz + k % sz = k := by rw [Nat.mul_comm]; exact Nat.div_add_mod k sz
      rw [this] at h5
      exact h5
    refine ⟨((List.range (rows.length * sz)).map fun k => (w.cell? ⟨g, off + k, none⟩).getD Go.undef).toArray, ⟨by simp, hl, fun i r hir j y hj => ?_⟩, fun j x hj => ?_, fun x hx => ?_⟩
    · obtain ⟨x, h5, h6, h7⟩ := hc i r hir j y hj
      have h1 := (List.getElem?_eq_some_iff.1 hir).1
      have h2 : j < sz := by rw [← hl i r hir]; exact (List.getElem?_eq_some_iff.1 hj).1
      refine ⟨x, ?_, h6, h7⟩
      have := row_lt (sz := sz) h1 h2
      simp [this, h5]
    · simp only [List.getElem?_map, Option.map_eq_some_iff] at hj
      obtain ⟨k, hk, rfl⟩ := hj
      have hlt : j < rows.length * sz := by have := (List.getElem?_eq_some_iff.1 hk).1; simpa using this
      rw [List.getElem?_range hlt] at hk
      simp only [Option.some.injEq] at hk
      subst hk
      obtain ⟨x, h5, _⟩ := cell _ hlt
      rw [Addr.add_lit, h5]
      rfl
    · simp only [List.mem_map, List.mem_range] at hx
      obtain ⟨k, hk, rfl⟩ := hx
      obtain ⟨x, h5, h6⟩ := cell k hk
      rw [h5]
      exact h6
  cases v <;> simp only [srcRows, reduceCtorEq, Option.some.injEq, Prod.mk.injEq] at h
  case sl sz' rows' =>
    obtain ⟨rfl, rfl⟩ := h
    cases hv with
    | slNil => exact .inl ⟨rfl, _, 0, rfl⟩
    | @sl _ _ _ g off len cap c hu hlen hcap hmax hsz hc hvv h1 =>
      obtain ⟨news, a, b, d⟩ := build g off rows' hsz (fun i r hir j y hj => ⟨c i j, hc i r hir j y hj, (hvv i r hir j y hj).weaken false, h1 i r hir j y hj⟩)
      exact .inr ⟨_, _, cap, news, by rw [hlen], a, b, d⟩
  case msl id ver off len =>
    simp only [Option.map_eq_some_iff] at h
    obtain ⟨⟨t, sz', rows'⟩, hs, heq⟩ := h
    simp only [Prod.mk.injEq] at heq
    obtain ⟨rfl, rfl⟩ := heq
    obtain ⟨hle, hk⟩ := hv.msl_inv hs
    have hl : ((rows'.drop off).take len).length = len := by simp; omega
    rcases hk with ⟨_, rfl, rfl, rfl⟩ | ⟨g, tot, cap, hg, rfl, htot, _, _⟩ | ⟨_, rfl, p, rfl⟩
    · exact .inl ⟨by simp, none, 0, rfl⟩
    · obtain ⟨cur, h1, h2, h3, h4, h5⟩ := hi.obj (obj_some hs) hg
      have hrow : ∀ (i : Nat) (r : List V), ((rows'.drop off).take len)[i]? = some r → rows'[off + i]? = some r := by
        intro i r hir
        rw [List.getElem?_take] at hir
        split at hir
        · simpa using hir
        · cases hir
      obtain ⟨news, a, b, d⟩ := build g (off * sz') ((rows'.drop off).take len) (fun i r hir => h5.1 _ r (hrow i r hir)) (fun i r hir j y hj => by
        obtain ⟨x, e1, e2, e3⟩ := h5.2 _ r (hrow i r hir) j y hj
        refine ⟨x, ?_, e2, e3⟩
        simp only [World.cell?, h3]
        rw [← e1, Nat.add_mul, Nat.add_assoc]
        rfl)
      exact .inr ⟨_, _, _, news, by rw [hl], a, b, d⟩
    · exact .inl ⟨by simp, some p, 0, rfl⟩
theorem bytesV_some : ∀ {rows : List (List V)} {l : List UInt8}, bytesV rows = some l → ∃ ns : List Int, rows = ns.map (fun n => [V.int .u8 n]) ∧ l = ns.map fun n => UInt8.ofNat n.toNat
  | [], l, h => by simp only [bytesV, Option.some.injEq] at h; exact ⟨[], rfl, h.symm⟩
  | r :: rows, l, h => by
    unfold bytesV at h
    split at h
    · rename_i heq; cases heq
    · rename_i n r' heq
      simp only [List.cons.injEq] at heq
      obtain ⟨rfl, rfl⟩ := heq
      split at h
      · rename_i l' hl
        simp only [Option.some.injEq] at h
        obtain ⟨ns, h1, h2⟩ := bytesV_some hl
        exact ⟨n :: ns, by rw [h1]; rfl, by rw [← h, h2]; rfl⟩
      · cases h
    · cases h
theorem b2s_run {x : Operand} {src dst q : TypeId} {u : Value} {vv : V} {l : List UInt8} {rows : List (List V)} (ho : o.op = .convert src dst x) (hs : P.underlying src = some (.slice q)) (hd : P.underlying dst = some .string) (hq : P.underlying q = some (.int .u8)) (hi : Inv ρ S w)
    (hu : a.eval x = u) (hv : VR ρ S w false vv u) (hr : srcRows S vv = some (1, rows)) (hb : bytesV rows = some l) (hmax : ∀ b n c, u = .slice b n c → n ≤ maxLen) : Yields P o a ρ S w (.str l) := by
  obtain ⟨ns, rfl, rfl⟩ := bytesV_some hb
  have empty : ns = [] → ∀ b c, u = .slice b 0 c → Yields P o a ρ S w (.str (ns.map fun n => UInt8.ofNat n.toNat)) := by
    intro hn b c hub
    subst hn
    refine Yields.same hi (u := .string ByteArray.empty) ?_ (.str rfl (by unfold maxLen; exact Nat.zero_le _))
    cases b with
    | none => simp only [execOp, ho, hu, hub, Sem.run_bind, run_convert_bytes_nil w src q hs hq 0 c dst hd, Result.andThen_ok, Sem.run_pure]
    | some p =>
      have hl : (loadCells p 0).run P w = .ok (([] : List Int).map (Value.int .u8)).toArray w := by simp [loadCells, loadCellsFrom]
      simp only [execOp, ho, hu, hub, Sem.run_bind, run_convert_bytes_string w src dst q _ 0 c hs hq hd, run_bytesToString w p 0 c [] hl, Result.andThen_ok, Sem.run_pure]
      rfl
  rcases src_cells hi hv hr (by omega) with ⟨h1, b, c, h2⟩ | ⟨g, off, c, news, h1, h2, h3, _⟩
  · exact empty (by simpa using h1) b c h2
  · have hlen : news.size = ns.length := by rw [h2.1]; simp
    have hcell : ∀ i, i < ns.length → w.cell? ⟨g, off + i, none⟩ = some (.int .u8 (ns.getD i 0)) := by
      intro i hi'
      obtain ⟨x', e1, e2, _⟩ := h2.2.2 i [V.int .u8 ns[i]] (by simp [hi']) 0 (V.int .u8 ns[i]) rfl
      have e2 := e2.int_inv
      subst e2
      have := h3 i (.int .u8 ns[i]) (by simpa using e1)
      rw [Addr.add_lit] at this
      rw [this]
      simp [List.getD, hi']
    have hrun := run_convert_bytes_arg w src q hs hq g off ns.length c ns rfl hcell dst hd
    rw [h1] at hu hmax
    simp only [List.length_map] at hu hmax
    refine Yields.same hi (u := .string (strOfNums ns)) (by simp only [execOp, ho, hu, Sem.run_bind, hrun, Result.andThen_ok, Sem.run_pure]) (.str ?_ ?_)
    · simp [strOfNums]
    · have := hmax _ _ _ rfl
      simp only [strOfNums, ByteArray.size, List.size_toArray, List.length_map]
      exact this
theorem sound_b2s {x : Operand} {src dst q : TypeId} {x' : Opd} (ho : o.op = .convert src dst x) (hs : P.underlying src = some (.slice q)) (hd : P.underlying dst = some .string) (hq : P.underlying q = some (.int .u8)) (he : Slots ρ S w e a) (hi : Inv ρ S w) (hx : opd x = some x')
    (h : opV e S (.b2s x') = some v) : Yields P o a ρ S w v := by
  have h1 := opd_rel he hx
  simp only [opV] at h
  split at h
  · rename_i hl
    simp only [Option.some.injEq] at h
    subst h
    rw [hl] at h1
    have hu : a.eval x = .slice none 0 0 := by generalize a.eval x = u at h1; cases h1; rfl
    refine Yields.same hi (u := .string ByteArray.empty) ?_ (.str rfl (by unfold maxLen; exact Nat.zero_le _))
    simp only [execOp, ho, hu, Sem.run_bind, run_convert_bytes_nil w src q hs hq 0 0 dst hd, Result.andThen_ok, Sem.run_pure]
  · rename_i sz rows hl
    split at h
    · rename_i hsz
      subst hsz
      simp only [Option.map_eq_some_iff] at h
      obtain ⟨l, hb, rfl⟩ := h
      rw [hl] at h1
      refine b2s_run ho hs hd hq hi rfl h1 rfl hb fun b n c hu => ?_
      rw [hu] at h1
      cases h1 with
      | slNil => unfold maxLen; exact Nat.zero_le _
      | sl cf hun hlen hcap hmax => omega
    · cases h
  · rename_i id ver off len hl
    simp only [Option.bind_eq_some_iff] at h
    obtain ⟨⟨t, sz, rows⟩, hs', h⟩ := h
    simp only at h
    split at h
    · rename_i hsz
      subst hsz
      simp only [Option.map_eq_some_iff] at h
      obtain ⟨l, hb, rfl⟩ := h
      rw [hl] at h1
      refine b2s_run ho hs hd hq hi rfl h1 (by simp [srcRows, hs']) hb fun b n c hu => ?_
      rw [hu] at h1
      obtain ⟨h2, h3⟩ := h1.msl_inv hs'
      rcases h3 with ⟨_, h3, _⟩ | ⟨g, tot, cap, hg, h3, h4, _, _⟩ | ⟨_, _, p, h3⟩
      · cases h3; unfold maxLen; exact Nat.zero_le _
      · cases h3
        obtain ⟨cur, _, h5, _⟩ := hi.obj (obj_some hs') hg
        omega
      · cases h3; unfold maxLen; exact Nat.zero_le _
    · cases h
  · cases h
end
end Go.AL
