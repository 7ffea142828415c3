/- Contracts of functions out of walks. -/
import Derived.Test.YtkdbghhdklfoiaaDoorSAl7
namespace Go.AL
set_option linter.unusedSectionVars false
variable [Mode]
set_option linter.unusedSimpArgs false
set_option linter.unusedVariables false
section
variable {P : Program}
theorem load1_run {ρ : Place} {S : Store} {w : World} {e : Nat → V} {v : V} {t : Nat} {ty : TypeId} {ux : Value} (ht : isAggT P ty = some false) (hi : Inv ρ S w) (h1 : VR ρ S w false (e t) ux) (h : opV e S (.ld1 (.t t)) = some v) :
    ∃ a u, ux = .pointer (some a) ∧ (loadVar ty a).run P w = .ok u w ∧ VR ρ S w false v u := by
  have run : ∀ g off u, ux = .pointer (some ⟨g, off, none⟩) → w.cell? ⟨g, off, none⟩ = some u → VR ρ S w false v u → ∃ a u, ux = .pointer (some a) ∧ (loadVar ty a).run P w = .ok u w ∧ VR ρ S w false v u := by
    intro g off u hp hc hv
    exact ⟨_, u, hp, by simp [loadVar, isAggT_false ht, hc], hv⟩
  simp only [opV, ev] at h
  split at h
  · rename_i cells hl
    rw [hl] at h1
    cases h1 with
    | @cptr _ _ g off c hun hc hv =>
      have h0 : cells[0]? = some v := by rw [← h]; cases cells <;> rfl
      exact run g off (c 0) rfl (hc 0 v h0) ((hv 0 v h0).weaken false)
  · rename_i id ver row off hl
    rw [hl] at h1
    simp only [Option.bind_eq_some_iff] at h
    obtain ⟨⟨t', sz, rows⟩, hs, r, hr, hy⟩ := h
    obtain ⟨g, tot, hg, hu⟩ := h1.ptr_inv hs
    obtain ⟨u, hc, hv, _⟩ := owned_cell hi hs hg hr hy
    exact run g _ u hu hc hv
  · cases h
theorem loadn_run {ρ : Place} {S : Store} {w : World} {e : Nat → V} {v : V} {t n : Nat} {ty : TypeId} {ux : Value} (ht : isAggT P ty = some true) (hz : sizeT P ty = some n) (hi : Inv ρ S w) (h1 : VR ρ S w false (e t) ux) (h : opV e S (.ldn n (.t t)) = some v) :
    ∃ a u, ux = .pointer (some a) ∧ (loadVar ty a).run P w = .ok u w ∧ VR ρ S w false v u := by
  obtain ⟨ti, hti, hsz⟩ := sizeT_some hz
  have run : ∀ g off (vs : List V), vs.length = n → ux = .pointer (some ⟨g, off, none⟩) → (∀ (j : Nat) (y : V), vs[j]? = some y → ∃ u, w.cell? ⟨g, off + j, none⟩ = some u ∧ VR ρ S w false y u) → ∃ a u, ux = .pointer (some a) ∧ (loadVar ty a).run P w = .ok u w ∧ VR ρ S w false (.agg vs) u := by
    intro g off vs hvs hp hc
    have hex : ∃ c : Nat → Value, ∀ (j : Nat) (y : V), vs[j]? = some y → w.cell? ⟨g, off + j, none⟩ = some (c j) ∧ VR ρ S w false y (c j) := by
      refine ⟨fun j => (w.cell? ⟨g, off + j, none⟩).getD Go.undef, fun j y hy => ?_⟩
      obtain ⟨u, h2, h3⟩ := hc j y hy
      simp [h2, h3]
    obtain ⟨c, hc⟩ := hex
    have hl := run_loadCells (P := P) w ⟨g, off, none⟩ n c (fun j hj => by
      rw [Addr.add_lit]
      exact (hc j vs[j] (List.getElem?_eq_getElem (by omega))).1)
    refine ⟨_, .agg ((List.range n).map c).toArray, hp, ?_, .agg' (by simp [hvs]) fun j y hj => ?_⟩
    · simp [loadVar, isAggT_true ht, sizeOf, typeInfo, hti, hsz, hl]
    · have hlt : j < n := by rw [← hvs]; exact (List.getElem?_eq_some_iff.1 hj).1
      exact ⟨c j, by simp [hlt], (hc j y hj).2⟩
  simp only [opV, ev] at h
  split at h
  · rename_i cells hl
    rw [hl] at h1
    split at h
    · rename_i hle
      simp only [Option.some.injEq] at h
      subst h
      cases h1 with
      | @cptr _ _ g off c hun hc hv =>
        refine run g off _ (by simp [hle]) rfl fun j y hj => ?_
        have hj' : cells[j]? = some y := by
          rw [List.getElem?_take] at hj
          split at hj
          · exact hj
          · cases hj
        exact ⟨c j, hc j y hj', (hv j y hj').weaken false⟩
    · cases h
  · rename_i id ver row off hl
    rw [hl] at h1
    simp only [Option.bind_eq_some_iff] at h
    obtain ⟨⟨t', sz, rows⟩, hs, r, hr, hy⟩ := h
    split at hy
    · rename_i hle
      simp only [Option.some.injEq] at hy
      subst hy
      obtain ⟨g, tot, hg, hu⟩ := h1.ptr_inv hs
      refine run g _ _ (by simp; omega) hu fun j y hj => ?_
      have hj' : r[off + j]? = some y := by
        rw [List.getElem?_take] at hj
        split at hj
        · simpa using hj
        · cases hj
      obtain ⟨u, hc, hv, _⟩ := owned_cell hi hs hg hr hj'
      exact ⟨u, by rw [Nat.add_assoc]; exact hc, hv⟩
    · cases hy
  · cases h
def resVar (tmps : Array Value) : ResultVar → Sem Value
  | .tmp t => pure (tmps.getD t Go.undef)
  | .cell a t => do loadVar t (← asAddr (tmps.getD a Go.undef))
theorem resC_run {ρ : Place} {S : Store} {w : World} {e : Nat → V} {tmps : Array Value} {R : V → Store → Prop} (hi : Inv ρ S w) (h : ∀ t, VR ρ S w false (e t) (tmps.getD t Go.undef)) : ∀ (l : List ResultVar) (res : List RS) (acc : List V), compRes P l = some res → resC e S R res acc →
    ∃ (us : List Value) (vs : List V), (l.mapM (resVar tmps)).run P w = .ok us w ∧ us.length = vs.length ∧ (∀ (j : Nat) (v : V), vs[j]? = some v → ∃ u, us[j]? = some u ∧ VR ρ S w false v u) ∧ R (tupOf (acc ++ vs)) S
  | [], res, acc, hc, hr => by
    simp only [compRes, Option.some.injEq] at hc
    subst hc
    exact ⟨[], [], rfl, rfl, fun j v hj => by simp at hj, by simpa [resC] using hr⟩
  | x :: l, res, acc, hc, hr => by
    have step : ∀ (r : RS) (res' : List RS), compRes P l = some res' → res = r :: res' → (∀ v, rsV e S r = some v → ∃ u, (resVar tmps x).run P w = .ok u w ∧ VR ρ S w false v u) →
        ∃ (us : List Value) (vs : List V), ((x :: l).mapM (resVar tmps)).run P w = .ok us w ∧ us.length = vs.length ∧ (∀ (j : Nat) (v : V), vs[j]? = some v → ∃ u, us[j]? = some u ∧ VR ρ S w false v u) ∧ R (tupOf (acc ++ vs)) S := by
      intro r res' hc' hres hx
      subst hres
      simp only [resC] at hr
      split at hr
      · rename_i v hv
        obtain ⟨u, hu, huv⟩ := hx v hv
        obtain ⟨us, vs, k1, k2, k3, k4⟩ := resC_run hi h l res' _ hc' hr
        refine ⟨u :: us, v :: vs, ?_, by simp [k2], fun j y hj => ?_, by simpa using k4⟩
        · simp only [List.mapM_cons, Sem.run_bind, hu, Result.andThen_ok, k1, Sem.run_pure]
        · cases j with
          | zero => simp at hj; subst hj; exact ⟨u, by simp, huv⟩
          | succ j => simp at hj; obtain ⟨z, z1, z2⟩ := k3 j y hj; exact ⟨z, by simpa using z1, z2⟩
      · cases hr
    cases x with
    | tmp t =>
      simp only [compRes, Option.map_eq_some_iff] at hc
      obtain ⟨res', hc', rfl⟩ := hc
      refine step (.tmp t) res' hc' rfl fun v hv => ?_
      simp only [rsV, Option.some.injEq] at hv
      subst hv
      exact ⟨_, rfl, h t⟩
    | cell t ty =>
      simp only [compRes] at hc
      split at hc
      · rename_i ht
        simp only [Option.map_eq_some_iff] at hc
        obtain ⟨res', hc', rfl⟩ := hc
        refine step (.cell t none) res' hc' rfl fun v hv => ?_
        obtain ⟨a, u, e1, e2, e3⟩ := load1_run (P := P) ht hi (h t) hv
        exact ⟨u, by simp [resVar, e1, asAddr, e2], e3⟩
      · rename_i n ht hz
        simp only [Option.map_eq_some_iff] at hc
        obtain ⟨res', hc', rfl⟩ := hc
        refine step (.cell t (some n)) res' hc' rfl fun v hv => ?_
        obtain ⟨a, u, e1, e2, e3⟩ := loadn_run (P := P) ht hz hi (h t) hv
        exact ⟨u, by simp [resVar, e1, asAddr, e2], e3⟩
      · cases hc
theorem results_run {ρ : Place} {S : Store} {w : World} {e : Nat → V} {tmps : Array Value} {R : V → Store → Prop} {fn : Func} {res : List RS} (hi : Inv ρ S w) (h : ∀ t, VR ρ S w false (e t) (tmps.getD t Go.undef)) (hc : compRes P fn.results.toList = some res) (hr : resC e S R res []) :
    ∃ u v, (results fn tmps).run P w = .ok u w ∧ VR ρ S w false v u ∧ R v S := by
  obtain ⟨us, vs, k1, k2, k3, k4⟩ := resC_run hi h _ res [] hc hr
  have hrun : (results fn tmps).run P w = .ok (if h : us.toArray.size = 1 then us.toArray[0] else .tuple us.toArray) w := by
    have hfun : results fn tmps = (do let vs ← fn.results.mapM (resVar tmps); pure (if h : vs.size = 1 then vs[0] else .tuple vs) : Sem Value) :=
      congrArg (fun f => (do let vs ← fn.results.mapM f; pure (if h : vs.size = 1 then vs[0] else .tuple vs) : Sem Value)) (funext fun x => by cases x <;> rfl)
    rw [hfun, Sem.run_bind, Array.mapM_eq_mapM_toList, Sem.run_map, k1]
    rfl
  refine ⟨_, tupOf vs, hrun, ?_, by simpa using k4⟩
  match us, vs, k2, k3 with
  | [], [], _, k3 => exact .tup' (by simp) fun j v hj => by simp at hj
  | [u], [v], _, k3 =>
    obtain ⟨u', hu, hv⟩ := k3 0 v rfl
    simp at hu
    subst hu
    exact hv
  | u :: u2 :: us, v :: v2 :: vs, hl, k3 =>
    have hne : ¬ (u :: u2 :: us).toArray.size = 1 := by simp
    rw [dif_neg hne]
    exact .tup' (by simpa using hl) fun j y hj => by obtain ⟨z, z1, z2⟩ := k3 j y hj; exact ⟨z, by simpa using z1, z2⟩
theorem Ext.take {ρ ρ' : Place} {S S' : Store} {w w' : World} (h : Ext ρ S w ρ' S' w') : Ext ρ S w ρ' (S'.take S.length) w' where
  os := h.os
  tape := h.tape
  output := h.output
  size := h.size
  un g hg := by
    obtain ⟨⟨a, b⟩, c⟩ := h.un g hg
    refine ⟨⟨a, fun id o c g' tot ho hst hr => b id o c g' tot ?_ hst hr⟩, c⟩
    rw [List.getElem?_take] at ho
    split at ho
    · exact ho
    · cases ho
  len := by simp only [List.length_take]; have := h.len; omega
  ver id o o' ho ho' := by
    rw [List.getElem?_take] at ho'
    split at ho'
    · exact h.ver id o o' ho ho'
    · cases ho'
theorem take_un {ρ : Place} {S : Store} {w : World} (n : Nat) : ∀ g, Unowned ρ S w g → Unowned ρ (S.take n) w g ∧ w.heap[g]? = w.heap[g]? := fun g ⟨a, b⟩ =>
  ⟨⟨a, fun id o c g' tot ho hst hr => b id o c g' tot (by
    rw [List.getElem?_take] at ho
    split at ho
    · exact ho
    · cases ho) hst hr⟩, rfl⟩
end
mutual
def V.under (n : Nat) : V → Bool
  | .ptr id _ _ _ => decide (id < n)
  | .msl id _ _ _ => decide (id < n)
  | .mapv id _ => decide (id < n)
  | .agg vs => V.allUnder n vs
  | .tup vs => V.allUnder n vs
  | .iface _ v => v.under n
  | .func _ a b => V.allUnder n a && V.allUnder n b
  | _ => true
def V.allUnder (n : Nat) : List V → Bool
  | [] => true
  | v :: r => v.under n && V.allUnder n r
end
theorem V.allUnder_get {n : Nat} : ∀ {vs : List V}, V.allUnder n vs = true → ∀ (j : Nat) (v : V), vs[j]? = some v → v.under n = true
  | [], _, j, v, h => by simp at h
  | x :: r, h, j, v, hj => by
    simp only [V.allUnder, Bool.and_eq_true] at h
    cases j with
    | zero => simp at hj; subst hj; exact h.1
    | succ j => simp at hj; exact V.allUnder_get h.2 j v hj
theorem VR.take {ρ : Place} {S : Store} {w : World} {b : Bool} {v : V} {u : Value} (n : Nat) (h : VR ρ S w b v u) : v.under n = true → VR ρ (S.take n) w b v u := by
  have get : ∀ {id : Nat}, id < n → (S.take n)[id]? = S[id]? := fun hid => by rw [List.getElem?_take, if_pos hid]
  induction h with
  | undef => exact fun _ => .undef
  | skipped => exact fun _ => .skipped
  | int => exact fun _ => .int
  | bool => exact fun _ => .bool
  | str h1 h2 => exact fun _ => .str h1 h2
  | nilSl => exact fun _ => .nilSl
  | slNil => exact fun _ => .slNil
  | sl c hu hlen hcap hmax hsz hc hv h1 ih =>
    exact fun _ => .sl c (take_un n _ hu).1 hlen hcap hmax hsz hc (fun i r hi j v hj => (hv i r hi j v hj).imm (take_un n) rfl true) h1
  | msl hlt hver hh h1 =>
    intro hb
    simp only [V.under, decide_eq_true_eq] at hb
    exact .msl (by simp; omega) (fun o ho => hver o (by rwa [get hb] at ho)) (fun e sz rows hs => hh e sz rows (by rwa [get hb] at hs)) h1
  | nilPtr => exact fun _ => .nilPtr
  | cptr c hu hc hv h1 ih => exact fun _ => .cptr c (take_un n _ hu).1 hc (fun j v hj => (hv j v hj).imm (take_un n) rfl true) h1
  | ptr hlt hver hh h1 =>
    intro hb
    simp only [V.under, decide_eq_true_eq] at hb
    exact .ptr (by simp; omega) (fun o ho => hver o (by rwa [get hb] at ho)) (fun e sz rows hs => hh e sz rows (by rwa [get hb] at hs)) h1
  | func c d hl hm hc hv hd hw ih1 ih2 =>
    intro hb
    simp only [V.under, Bool.and_eq_true] at hb
    exact .func c d hl hm hc (fun j v hj => ih1 j v hj (V.allUnder_get hb.1 j v hj)) hd (fun j v hj => ih2 j v hj (V.allUnder_get hb.2 j v hj))
  | nilFn => exact fun _ => .nilFn
  | iface h ih => exact fun hb => .iface (ih hb)
  | nilIface => exact fun _ => .nilIface
  | agg c hl hc hv ih => exact fun hb => .agg c hl hc fun j v hj => ih j v hj (V.allUnder_get hb j v hj)
  | tup c hl hc hv ih => exact fun hb => .tup c hl hc fun j v hj => ih j v hj (V.allUnder_get hb j v hj)
  | nilMap => exact fun _ => .nilMap
  | mapv hlt hver hh h1 =>
    intro hb
    simp only [V.under, decide_eq_true_eq] at hb
    exact .mapv (by simp; omega) (fun o ho => hver o (by rwa [get hb] at ho)) (fun rows hs => hh rows (by rwa [get hb] at hs)) h1
def Store.closedA (S : Store) (n : Nat) : Prop := ∀ (id : Nat) (ver : Nat) (e : TypeId) (sz : Nat) (rows : List (List V)), id < n → S[id]? = some ⟨ver, some (.arr e sz rows)⟩ → ∀ r ∈ rows, V.allUnder n r = true
def Store.closedM (S : Store) (n : Nat) : Prop := ∀ (id : Nat) (ver : Nat) (m : MapC), id < n → S[id]? = some ⟨ver, some (.mp m)⟩ → (∀ p ∈ m.rows, p.1.under n = true ∧ p.2.under n = true ∧ isKV m.kd p.1 = true) ∧ ∀ of p, m.x = .iter of (some p) → p.1.under n = true ∧ p.2.under n = true
def Store.closed (S : Store) (n : Nat) : Prop := S.closedA n ∧ S.closedM n
theorem Inv.take {ρ : Place} {S : Store} {w : World} (h : Inv ρ S w) (n : Nat) (hcl : S.closed n) : Inv ρ (S.take n) w where
  rows id ver e sz rows hs := by
    have hid : id < n ∧ S[id]? = some ⟨ver, some (.arr e sz rows)⟩ := by
      rw [List.getElem?_take] at hs
      split at hs
      · rename_i hlt; exact ⟨hlt, hs⟩
      · cases hs
    obtain ⟨h1, h2⟩ := h.rows id ver e sz rows hid.2
    refine ⟨h1, ?_⟩
    rcases h2 with h2 | ⟨g, tot, cur, a, b, c, d, f, k⟩
    · exact .inl h2
    · refine .inr ⟨g, tot, cur, a, b, c, d, f, fun i r hr j v hj => ?_⟩
      obtain ⟨u, hu, hv, h1⟩ := k i r hr j v hj
      exact ⟨u, hu, hv.take n (V.allUnder_get (hcl.1 id ver e sz rows hid.1 hid.2 r (List.mem_of_getElem? hr)) j v hj), h1⟩
  inj i j o p c d g x y hi hj := h.inj i j o p c d g x y (by
    rw [List.getElem?_take] at hi
    split at hi
    · exact hi
    · cases hi) (by
    rw [List.getElem?_take] at hj
    split at hj
    · exact hj
    · cases hj)
  maps id ver rows hs := by
    have hid : id < n ∧ S[id]? = some ⟨ver, some (.mp rows)⟩ := by
      rw [List.getElem?_take] at hs
      split at hs
      · rename_i hlt; exact ⟨hlt, hs⟩
      · cases hs
    obtain ⟨g, a, b⟩ := h.maps id ver rows hid.2
    obtain ⟨k1, k2⟩ := hcl.2 id ver rows hid.1 hid.2
    refine ⟨g, a, ?_⟩
    obtain ⟨kd, rs, x⟩ := rows
    cases x with
    | iter of cur =>
      obtain ⟨c, l, ce, ⟨d1, d2⟩, f, q⟩ := b
      refine ⟨c, l, ce, ⟨d1, fun i k v hi => ?_⟩, fun p hp => ?_, ?_⟩
      · obtain ⟨en, h1, h2, h3⟩ := d2 i k v hi
        obtain ⟨k3, k4, _⟩ := k1 (k, v) (List.mem_of_getElem? hi)
        exact ⟨en, h1, h2.take n k3, h3.take n k4⟩
      · obtain ⟨h2, h3⟩ := f p hp
        subst hp
        obtain ⟨k3, k4⟩ := k2 of p rfl
        exact ⟨h2.take n k3, h3.take n k4⟩
      · cases of with
        | none => exact q
        | some z =>
          obtain ⟨mid, mver⟩ := z
          obtain ⟨gm, since, seen, q1, q2⟩ := q
          refine ⟨gm, since, seen, q1, fun kd2 rows2 hm => q2 kd2 rows2 ?_⟩
          rw [List.getElem?_take] at hm
          split at hm
          · exact hm
          · cases hm
    | _ =>
      obtain ⟨es, ck, c, ⟨d1, d2, d3⟩, f⟩ := b
      refine ⟨es, ck, c, ⟨d1, d2, fun i k v hi => ?_⟩, f⟩
      obtain ⟨en, h1, h2, h3⟩ := d3 i k v hi
      obtain ⟨k3, k4, _⟩ := k1 (k, v) (List.mem_of_getElem? hi)
      exact ⟨en, h1, h2.take n k3, h3.take n k4⟩
  tab p hp := by
    obtain ⟨a, t, fr, b⟩ := h.tab p hp
    refine ⟨⟨a.1, fun id o c g tot hs => a.2 id o c g tot ?_⟩, t, fr, b⟩
    rw [List.getElem?_take] at hs
    split at hs
    · exact hs
    · cases hs
section
variable {P : Program}
theorem enter_rel {ρ : Place} {S : Store} {w : World} {args : List V} {us : Array Value} {N : Nat} (hi : Inv ρ S w) (hv : VRs ρ S w args us) (hN : args.length ≤ N) :
    Rel N ρ S w (argEnv 0 args).get { tmps := us ++ Array.replicate (N - us.size) Go.undef, defers := [] } := by
  refine ⟨hi, rfl, by have := hv.1; simp; omega, fun t => ?_⟩
  rw [argEnv_get]
  simp only [Nat.zero_le, if_true, Nat.sub_zero]
  cases ha : args[t]? with
  | none => exact .undef
  | some v =>
    obtain ⟨u, hu, hr⟩ := hv.2 t v ha
    simp only [Option.getD_some]
    have hlt : t < us.size := (Array.getElem?_eq_some_iff.1 hu).1
    rw [Array.getD_eq_getD_getElem?, Array.getElem?_append_left hlt, hu]
    exact hr
theorem compF_some {own : Hint} {fn : Func} {af : AFun} (h : compF P own fn = some af) : ∃ c, fn.body = some c ∧ (fn.name == "runtime.NumGoroutine") = false ∧ fn.ntmps = af.N ∧ compRes P fn.results.toList = some af.res ∧ compC P own af.N c = some af.code := by
  unfold compF at h
  split at h
  · rename_i c res hb hr
    split at h
    · cases h
    · rename_i hn
      simp only [Option.map_eq_some_iff] at h
      obtain ⟨ac, hac, rfl⟩ := h
      exact ⟨c, hb, by simpa using hn, rfl, hr, hac⟩
  · cases h
theorem CallA.keep {own : Hint} {f : FuncId} {fn : Func} {af : AFun} {args : List V} {S : Store} {R : V → Store → Prop} (hf : P.funcs[f]? = some fn) (hc : compF P own fn = some af) (hN : args.length ≤ af.N)
    (h : ∀ σ : Base, σ.S = S → wpA P af.N σ af.code (retK af.res R) (argEnv 0 args) S) : CallA P f args S R := by
  obtain ⟨c, hb, hname, hnt, hres, hcc⟩ := compF_some hc
  refine ⟨⟨fn, hf, hname, by simp [hb]⟩, fun ρ w us hi hv => ?_⟩
  refine calls_of_wp hf hb ?_
  rw [hnt]
  refine wp_mono (wpA_sound c af.code hcc _ _ _ (h ⟨ρ, S, w⟩ rfl) ρ _ w (Ext.refl _ _ _) (enter_rel hi hv hN)) fun x a w' hp => ?_
  obtain ⟨hok, ρ', E, S', h1, h2, h3⟩ := hp
  have fin : resC E.get S' R af.res [] → a.defers = [] ∧ ∃ v, (results fn a.tmps).run P w' = .ok v w' ∧ ∃ ρ' S' r u, (Ending.returned v) = .returned u ∧ VR ρ' S' w' false r u ∧ Inv ρ' S' w' ∧ Ext ρ S w ρ' S' w' ∧ R r S' := fun hR => by
    obtain ⟨u, v, g1, g2, g3⟩ := results_run (P := P) h2.inv h2.slots hres hR
    exact ⟨h2.defers, u, g1, ρ', S', v, u, rfl, g2, h2.inv, h1, g3⟩
  cases x <;> simp only [okExit] at hok
  · exact fin h3
  · exact h3.elim
  · exact fin h3
theorem CallA.enter {own : Hint} {f : FuncId} {fn : Func} {af : AFun} {args : List V} {S : Store} {R : V → Store → Prop} (hf : P.funcs[f]? = some fn) (hc : compF P own fn = some af) (hN : args.length ≤ af.N)
    (h : ∀ σ : Base, σ.S = S → wpA P af.N σ af.code (retK af.res fun r S' => r.isImm = true ∧ S'.closed S.length ∧ R r (S'.take S.length)) (argEnv 0 args) S) : CallA P f args S R := by
  have hk := CallA.keep hf hc hN h
  refine ⟨hk.1, fun ρ w us hi hv => (hk.2 ρ w us hi hv).mono fun en w' ⟨ρ', S', r, u, h1, h2, h3, h4, h5, h6, h7⟩ => ?_⟩
  exact ⟨ρ', S'.take S.length, r, u, h1, ((h2.toImm h5 true).imm (take_un _) rfl false), h3.take _ h6, h4.take, h7⟩
theorem CallA.quiet {own : Hint} {f : FuncId} {fn : Func} {af : AFun} {args : List V} {S : Store} {R : V → Store → Prop} (hf : P.funcs[f]? = some fn) (hc : compF P own fn = some af) (hN : args.length ≤ af.N)
    (h : ∀ σ : Base, σ.S = S → wpA P af.N σ af.code (retK af.res R) (argEnv 0 args) S) : CallA P f args S R := CallA.keep hf hc hN h
end
end Go.AL
