/- Functions that leave the store as it was: what they made is forgotten, what they hand back is frozen. Nil slices as owned empty ones. -/
import Derived.Test.YtkdbghhdklfoiaaDoorSAlF
namespace Go.AL
set_option linter.unusedSectionVars false
variable [Mode]
set_option linter.unusedSimpArgs false
set_option linter.unusedVariables false
section
variable {P : Program} {ρ : Place} {S : Store} {w : World}
mutual
theorem V.under_of : ∀ {v : V} {u : Value} {b : Bool}, VR ρ S w b v u → v.under S.length = true
  | .msl .., _, _, h => by cases h with | msl hlt => simpa [V.under] using hlt
  | .mapv .., _, _, h => by cases h with | mapv hlt => simpa [V.under] using hlt
  | .ptr .., _, _, h => by cases h with | ptr hlt => simpa [V.under] using hlt
  | .agg vs, _, _, h => by cases h with | agg c hl hc hv => exact V.allUnder_of vs fun j v hj => ⟨_, _, hv j v hj⟩
  | .tup vs, _, _, h => by cases h with | tup c hl hc hv => exact V.allUnder_of vs fun j v hj => ⟨_, _, hv j v hj⟩
  | .iface _ v, _, _, h => by cases h with | iface h => (show v.under S.length = true; exact V.under_of h)
  | .func _ a c, _, _, h => by
    cases h with
    | func c d hl hm hc hv hd hw =>
      simp only [V.under, Bool.and_eq_true]
      exact ⟨V.allUnder_of _ fun j v hj => ⟨_, _, hv j v hj⟩, V.allUnder_of _ fun j v hj => ⟨_, _, hw j v hj⟩⟩
  | .undef, _, _, _ => rfl
  | .skipped, _, _, _ => rfl
  | .int .., _, _, _ => rfl
  | .bool _, _, _, _ => rfl
  | .str _, _, _, _ => rfl
  | .nilSl, _, _, _ => rfl
  | .sl .., _, _, _ => rfl
  | .nilPtr, _, _, _ => rfl
  | .cptr _, _, _, _ => rfl
  | .nilFn, _, _, _ => rfl
  | .nilIface, _, _, _ => rfl
  | .nilMap, _, _, _ => rfl
theorem V.allUnder_of : ∀ (vs : List V), (∀ (j : Nat) (v : V), vs[j]? = some v → ∃ b u, VR ρ S w b v u) → V.allUnder S.length vs = true
  | [], _ => rfl
  | v :: r, h => by
    simp only [V.allUnder, Bool.and_eq_true]
    obtain ⟨b, u, hu⟩ := h 0 v rfl
    exact ⟨V.under_of hu, V.allUnder_of r fun j x hj => h (j + 1) x (by simpa using hj)⟩
end
def NeatM (S : Store) : Prop := ∀ (id ver : Nat) (m : MapC), S[id]? = some ⟨ver, some (.mp m)⟩ → (∀ p ∈ m.rows, p.1.under S.length = true ∧ p.2.under S.length = true ∧ isKV m.kd p.1 = true) ∧ ∀ of p, m.x = .iter of (some p) → p.1.under S.length = true ∧ p.2.under S.length = true
def NeatA (S : Store) : Prop := ∀ (id ver : Nat) (e : TypeId) (sz : Nat) (rows : List (List V)), S[id]? = some ⟨ver, some (.arr e sz rows)⟩ → ∀ r ∈ rows, r.length = sz ∧ V.allUnder S.length r = true
def Neat (S : Store) : Prop := NeatA S ∧ NeatM S
theorem Inv.neatA (h : Inv ρ S w) : NeatA S := fun id ver e sz rows hs r hr => by
  obtain ⟨h1, h2⟩ := h.rows id ver e sz rows hs
  obtain ⟨i, hi⟩ := List.getElem?_of_mem hr
  refine ⟨h1 i r hi, ?_⟩
  rcases h2 with ⟨_, rfl⟩ | ⟨g, tot, cur, _, _, _, _, _, k⟩
  · simp at hr
  · refine V.allUnder_of (ρ := ρ) (w := w) r fun j v hj => ?_
    obtain ⟨u, _, hu, _⟩ := k i r hi j v hj
    exact ⟨_, _, hu⟩
theorem Inv.neat (h : Inv ρ S w) : Neat S := ⟨h.neatA, fun id ver rows hs => by
  obtain ⟨g, _, b⟩ := h.maps id ver rows hs
  obtain ⟨hk, ⟨l, _, d⟩, hc⟩ := b.entries
  refine ⟨fun p hp => ?_, fun of p hp => ?_⟩
  · obtain ⟨i, hi⟩ := List.getElem?_of_mem hp
    obtain ⟨e, _, h2, h3⟩ := d i p.1 p.2 hi
    exact ⟨V.under_of h2, V.under_of h3, hk p hp⟩
  · obtain ⟨u1, u2, h2, h3⟩ := hc of p hp
    exact ⟨V.under_of h2, V.under_of h3⟩⟩
theorem Neat.fgt (h : Neat S) (T : Store) : Fgt (S ++ T) S := by
  have low : ∀ {id : Nat} {o : Obj}, id < S.length → (S ++ T)[id]? = some o → S[id]? = some o := fun hlt ho => by rwa [List.getElem?_append_left hlt] at ho
  have := Fgt.take (S := S ++ T) (n := S.length) ⟨fun id ver e sz rows hid hs r hr => (h.1 id ver e sz rows (low hid hs) r hr).2, fun id ver rows hid hs => h.2 id ver rows (low hid hs)⟩ (by simp)
    (fun id ver e sz rows hid hs i r hi => (h.1 id ver e sz rows (low hid hs) r (List.mem_of_getElem? hi)).1)
  rwa [List.take_left] at this
theorem CallA.withNeat {own : Hint} {f : FuncId} {fn : Func} {af : AFun} {args : List V} {R : V → Store → Prop} (hf : P.funcs[f]? = some fn) (hc : compF P own fn = some af) (h : Neat S → CallA P f args S R) : CallA P f args S R := by
  refine ⟨?_, fun ρ w us hi hv => (h hi.neat).2 ρ w us hi hv⟩
  obtain ⟨c, hb, hname, _⟩ := compF_some hc
  exact ⟨fn, hf, hname, by simp [hb]⟩
theorem CallA.back {own : Hint} {f : FuncId} {fn : Func} {af : AFun} {args : List V} {R : V → Prop} (hf : P.funcs[f]? = some fn) (hc : compF P own fn = some af) (hN : args.length ≤ af.N)
    (h : ∀ σ : Base, σ.S = S → Neat S → wpA P af.N σ af.code (retK af.res fun r S' => ∃ r1, (∃ T, S' = S ++ T) ∧ Frz S' S r r1 ∧ R r1) (argEnv 0 args) S) : CallA P f args S fun r S' => R r ∧ S' = S := by
  refine CallA.withNeat hf hc fun hn => ?_
  have hk := CallA.keep hf hc hN fun σ hσ => h σ hσ hn
  refine ⟨hk.1, fun ρ w us hi hv => (hk.2 ρ w us hi hv).mono fun en w' ⟨ρ', S', r, u, h1, h2, h3, h4, r1, ⟨T, h5⟩, h6, h7⟩ => ?_⟩
  subst h5
  exact ⟨ρ', S, r1, u, h1, h6.rel (hn.fgt T) h3 h2, h3.forget (hn.fgt T), h4.forget (hn.fgt T) (Nat.le_refl _), h7, rfl⟩
theorem isImm_under : ∀ {v : V} (n : Nat), v.isImm = true → v.under n = true := by
  intro v n
  induction v using V.rec (motive_2 := fun _ => True) (motive_3 := fun l => V.allImm l = true → V.allUnder n l = true) with
  | _ => first | trivial | (intro h; simp_all [V.isImm, V.allImm, V.under, V.allUnder])
theorem Frz.imm {S S1 : Store} {v : V} (h : v.isImm = true) : Frz S S1 v v := .same (.inl (isImm_under _ h))
theorem Frz.sl {S S1 : Store} {id ver sz n : Nat} {t : TypeId} {rows : List (List V)} (hd : S1.length ≤ id) (ho : S.obj? id ver = some (t, sz, rows)) (hn : rows.length = n) (hr : ∀ r ∈ rows, r.length = sz ∧ V.allImm r = true) : Frz S S1 (.msl id ver 0 n) (.sl sz rows) := by
  refine .msl (fun o h => ?_) ho (.inl rfl) hn (fun i r hi => (hr r (List.mem_of_getElem? hi)).1) (fun i r hi j v hj q x hq hx => ?_) (fun i r hi j v hj => V.allImm_get (hr r (List.mem_of_getElem? hi)).2 j v hj)
  · have := (List.getElem?_eq_some_iff.1 h).1
    omega
  · rw [Nat.zero_add, hi] at hq
    cases hq
    rw [hj] at hx
    cases hx
    exact .imm (V.allImm_get (hr r (List.mem_of_getElem? hi)).2 j v hj)
theorem Frz.tup2 {S S1 : Store} {a b a' b' : V} (h : Frz S S1 a a') (k : Frz S S1 b b') : Frz S S1 (.tup [a, b]) (.tup [a', b']) :=
  .tup rfl fun j v hj x hx => by
    match j with
    | 0 => simp at hj hx; subst hj hx; exact h
    | 1 => simp at hj hx; subst hj hx; exact k
    | j + 2 => simp at hj
def kill (T : Store) : Store := T.map fun o => ⟨o.ver, none⟩
theorem dead_kill {S T : Store} {id : Nat} (h : S.length ≤ id) : dead (S ++ kill T) id := fun o ho => by
  rw [List.getElem?_append_right h] at ho
  simp only [kill, List.getElem?_map, Option.map_eq_some_iff] at ho
  obtain ⟨x, _, rfl⟩ := ho
  rfl
theorem Neat.killed {S : Store} (h : Neat S) (T : Store) : Fgt (S ++ T) (S ++ kill T) where
  len := by simp [kill]
  obj id o1 ho := by
    by_cases hid : id < S.length
    · rw [List.getElem?_append_left hid] at ho
      refine ⟨o1, by rw [List.getElem?_append_left hid]; exact ho, rfl, fun t sz rows hst => ⟨rows, hst, rfl, fun i r hr => ?_, fun i r hr j v hj r' x hr' hx => ?_⟩⟩
      · obtain ⟨ver, st⟩ := o1
        simp only at hst
        subst hst
        exact (h.1 id ver t sz rows ho r (List.mem_of_getElem? hr)).1
      · rw [hr] at hr'
        cases hr'
        rw [hj] at hx
        cases hx
        exact .same (.inr (by simp [kill]))
    · have hd := dead_kill (S := S) (T := T) (by omega : S.length ≤ id) o1 ho
      rw [List.getElem?_append_right (by omega)] at ho
      simp only [kill, List.getElem?_map, Option.map_eq_some_iff] at ho
      obtain ⟨x, hx, rfl⟩ := ho
      refine ⟨x, by rw [List.getElem?_append_right (by omega)]; exact hx, rfl, fun t sz rows hst => by cases hst⟩
  objM id o1 ho rows1 hst := by
    by_cases hid : id < S.length
    · rw [List.getElem?_append_left hid] at ho
      obtain ⟨ver, st⟩ := o1
      simp only at hst
      subst hst
      refine ⟨_, rows1, by rw [List.getElem?_append_left hid]; exact ho, rfl, rfl, .same fun of p hp => .inr (by simp [kill]), rfl, rfl, fun p hp => ((h.2 id ver rows1 ho).1 p hp).2.2, fun i p1 p h1 h2 => ?_⟩
      rw [h1] at h2
      cases h2
      exact ⟨.same (.inr (by simp [kill])), .same (.inr (by simp [kill]))⟩
    · have hd := dead_kill (S := S) (T := T) (by omega : S.length ≤ id) o1 ho
      rw [hd] at hst
      cases hst
theorem Frz.dead {S S1 : Store} {id ver sz n : Nat} {t : TypeId} {rows : List (List V)} (hd : AL.dead S1 id) (ho : S.obj? id ver = some (t, sz, rows)) (hn : rows.length = n) (hr : ∀ r ∈ rows, r.length = sz ∧ V.allImm r = true) : Frz S S1 (.msl id ver 0 n) (.sl sz rows) := by
  refine .msl hd ho (.inl rfl) hn (fun i r hi => (hr r (List.mem_of_getElem? hi)).1) (fun i r hi j v hj q x hq hx => ?_) (fun i r hi j v hj => V.allImm_get (hr r (List.mem_of_getElem? hi)).2 j v hj)
  rw [Nat.zero_add, hi] at hq
  cases hq
  rw [hj] at hx
  cases hx
  exact .imm (V.allImm_get (hr r (List.mem_of_getElem? hi)).2 j v hj)
theorem CallA.killed {P : Program} {S T : Store} {f : FuncId} {args args1 : List V} {R : V → Store → Prop} (hn : Neat S) (h : CallA P f args1 (S ++ kill T) R) (hlen : args.length = args1.length)
    (ha : ∀ (j : Nat) (v1 v : V), args1[j]? = some v1 → args[j]? = some v → Frz (S ++ T) (S ++ kill T) v v1) : CallA P f args (S ++ T) R :=
  h.froze (hn.killed T) (by simp [kill]) hlen ha
end
section
variable {S L : Store} {k id ver sz : Nat} {t : TypeId} {rows : List (List V)} {x y : Obj}
theorem ob_app : Store.obj? (S ++ L) (S.length + k) ver = Store.obj? L k ver := by
  simp only [Store.obj?]; rw [List.getElem?_append_right (by omega), Nat.add_sub_cancel_left]
theorem ob_app0 : Store.obj? (S ++ L) S.length ver = Store.obj? L 0 ver := by
  simp only [Store.obj?]; rw [List.getElem?_append_right (by omega), Nat.sub_self]
theorem ob_cons : Store.obj? (x :: L) (k + 1) ver = Store.obj? L k ver := by simp only [Store.obj?, List.getElem?_cons_succ]
theorem ob_head : Store.obj? (⟨ver, some (.arr t sz rows)⟩ :: L) 0 ver = some (t, sz, rows) := by simp only [Store.obj?, List.getElem?_cons_zero, if_true]
theorem se_app : (S ++ L : Store).set (S.length + k) y = S ++ L.set k y := by rw [List.set_append_right _ _ (by omega), Nat.add_sub_cancel_left]
theorem se_app0 : (S ++ L : Store).set S.length y = S ++ L.set 0 y := by rw [List.set_append_right _ _ (by omega), Nat.sub_self]
theorem se_cons : (x :: L : Store).set (k + 1) y = x :: L.set k y := rfl
theorem se_head : (x :: L : Store).set 0 y = y :: L := rfl
theorem ap_app {T : Store} : (S ++ L) ++ T = S ++ (L ++ T) := List.append_assoc ..
theorem mp_app {m : Nat} : Store.mp? (S ++ L) (S.length + m) ver = Store.mp? L m ver := by
  simp only [Store.mp?]; rw [List.getElem?_append_right (by omega), Nat.add_sub_cancel_left]
theorem mp_app0 : Store.mp? (S ++ L) S.length ver = Store.mp? L 0 ver := by
  simp only [Store.mp?]; rw [List.getElem?_append_right (by omega), Nat.sub_self]
theorem mp_cons : Store.mp? (x :: L) (k + 1) ver = Store.mp? L k ver := by simp only [Store.mp?, List.getElem?_cons_succ]
theorem mp_head {kd : KD} {rows : List (V × V)} {x : MX} : Store.mp? (⟨ver, some (.mp ⟨kd, rows, x⟩)⟩ :: L) 0 ver = some (kd, rows, x) := by simp only [Store.mp?, List.getElem?_cons_zero, if_true]
theorem le_app : (S ++ L : Store).length = S.length + L.length := List.length_append
end
end Go.AL
