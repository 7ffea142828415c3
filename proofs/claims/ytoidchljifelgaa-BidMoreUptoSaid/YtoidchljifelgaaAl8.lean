/- Contracts of functions out of walks. -/
import Derived.Test.YtoidchljifelgaaAl7
namespace Go.AL
section
variable {P : Program}

def resU (tmps : Array Value) : List Nat → Value
  | [t] => tmps.getD t Go.undef
  | l => .tuple (l.map fun t => tmps.getD t Go.undef).toArray

theorem mapM_tmps (f : ResultVar → Sem Value) (g : Nat → Value) (hf : ∀ t, f (.tmp t) = pure (g t)) (w : World) : ∀ (res : List Nat), ((res.map ResultVar.tmp).mapM f).run P w = .ok (res.map g) w
  | [] => rfl
  | t :: r => by
    have := mapM_tmps f g hf w r
    simp only [List.map_cons, List.mapM_cons, Sem.run_bind, hf, Sem.run_pure, Result.andThen_ok, this]

theorem results_run {fn : Func} {res : List Nat} (h : resSlots fn.results.toList = some res) (tmps : Array Value) (w : World) :
    (results fn tmps).run P w = .ok (resU tmps res) w := by
  have he := resSlots_eq h
  unfold results
  rw [Sem.run_bind, Array.mapM_eq_mapM_toList, he, Sem.run_map, mapM_tmps _ (fun t => tmps.getD t Go.undef) (fun _ => rfl)]
  simp only [Result.andThen_ok, Sem.run_pure]
  match res with
  | [] => rfl
  | [t] => rfl
  | t :: u :: r => simp [resU]

theorem resV_rel {ρ : Place} {S : Store} {w : World} {e : Nat → V} {tmps : Array Value} (h : ∀ t, VR ρ S w false (e t) (tmps.getD t Go.undef)) (res : List Nat) :
    VR ρ S w false (resV e res) (resU tmps res) := by
  have tup : ∀ l : List Nat, VR ρ S w false (.tup (l.map e)) (.tuple (l.map fun t => tmps.getD t Go.undef).toArray) := fun l =>
    .tup' (by simp) fun j v hv => by
      simp only [List.getElem?_map, Option.map_eq_some_iff] at hv
      obtain ⟨t, ht, rfl⟩ := hv
      exact ⟨_, by simp [ht], h t⟩
  match res with
  | [] => exact tup []
  | [t] => exact h t
  | t :: u :: r => exact tup (t :: u :: r)

theorem Ext.take {ρ ρ' : Place} {S S' : Store} {w w' : World} (h : Ext ρ S w ρ' S' w') : Ext ρ S w ρ' (S'.take S.length) w' where
  os := h.os
  tape := h.tape
  output := h.output
  size := h.size
  un g hg := by
    obtain ⟨⟨a, b⟩, c⟩ := h.un g hg
    refine ⟨⟨a, fun id o c g' tot ho hst hr => b id o c g' tot ?_ hst hr⟩, c⟩
    rw [List.getElem?_take] at ho
    split at ho
    · exact ho
    · cases ho
  len := by simp only [List.length_take]; have := h.len; omega
  ver id o o' ho ho' := by
    rw [List.getElem?_take] at ho'
    split at ho'
    · exact h.ver id o o' ho ho'
    · cases ho'

/-- What is forgotten is unowned. -/
theorem take_un {ρ : Place} {S : Store} {w : World} (n : Nat) : ∀ g, Unowned ρ S w g → Unowned ρ (S.take n) w g ∧ w.heap[g]? = w.heap[g]? := fun g ⟨a, b⟩ =>
  ⟨⟨a, fun id o c g' tot ho hst hr => b id o c g' tot (by
    rw [List.getElem?_take] at ho
    split at ho
    · exact ho
    · cases ho) hst hr⟩, rfl⟩

end

mutual
/-- No object from n on is named. -/
def V.under (n : Nat) : V → Bool
  | .ptr id _ _ _ => decide (id < n)
  | .msl id _ _ _ => decide (id < n)
  | .agg vs => V.allUnder n vs
  | .tup vs => V.allUnder n vs
  | .iface _ v => v.under n
  | .func _ a b => V.allUnder n a && V.allUnder n b
  | _ => true
def V.allUnder (n : Nat) : List V → Bool
  | [] => true
  | v :: r => v.under n && V.allUnder n r
end

theorem V.allUnder_get {n : Nat} : ∀ {vs : List V}, V.allUnder n vs = true → ∀ (j : Nat) (v : V), vs[j]? = some v → v.under n = true
  | [], _, j, v, h => by simp at h
  | x :: r, h, j, v, hj => by
    simp only [V.allUnder, Bool.and_eq_true] at h
    cases j with
    | zero => simp at hj; subst hj; exact h.1
    | succ j => simp at hj; exact V.allUnder_get h.2 j v hj

theorem VR.take {ρ : Place} {S : Store} {w : World} {b : Bool} {v : V} {u : Value} (n : Nat) (h : VR ρ S w b v u) : v.under n = true → VR ρ (S.take n) w b v u := by
  have get : ∀ {id : Nat}, id < n → (S.take n)[id]? = S[id]? := fun hid => by rw [List.getElem?_take, if_pos hid]
  induction h with
  | undef => exact fun _ => .undef
  | skipped => exact fun _ => .skipped
  | int => exact fun _ => .int
  | bool => exact fun _ => .bool
  | str h1 h2 => exact fun _ => .str h1 h2
  | nilSl => exact fun _ => .nilSl
  | slNil => exact fun _ => .slNil
  | sl c hu hlen hcap hmax hsz hc hv h1 ih =>
    exact fun _ => .sl c (take_un n _ hu).1 hlen hcap hmax hsz hc (fun i r hi j v hj => (hv i r hi j v hj).imm (take_un n) rfl true) h1
  | msl hlt hver hh h1 =>
    intro hb
    simp only [V.under, decide_eq_true_eq] at hb
    exact .msl (by simp; omega) (fun o ho => hver o (by rwa [get hb] at ho)) (fun e sz rows hs => hh e sz rows (by rwa [get hb] at hs)) h1
  | nilPtr => exact fun _ => .nilPtr
  | cptr c hu hc hv h1 ih => exact fun _ => .cptr c (take_un n _ hu).1 hc (fun j v hj => (hv j v hj).imm (take_un n) rfl true) h1
  | ptr hlt hver hh h1 =>
    intro hb
    simp only [V.under, decide_eq_true_eq] at hb
    exact .ptr (by simp; omega) (fun o ho => hver o (by rwa [get hb] at ho)) (fun e sz rows hs => hh e sz rows (by rwa [get hb] at hs)) h1
  | func c d hl hm hc hv hd hw ih1 ih2 =>
    intro hb
    simp only [V.under, Bool.and_eq_true] at hb
    exact .func c d hl hm hc (fun j v hj => ih1 j v hj (V.allUnder_get hb.1 j v hj)) hd (fun j v hj => ih2 j v hj (V.allUnder_get hb.2 j v hj))
  | nilFn => exact fun _ => .nilFn
  | iface h ih => exact fun hb => .iface (ih hb)
  | nilIface => exact fun _ => .nilIface
  | agg c hl hc hv ih => exact fun hb => .agg c hl hc fun j v hj => ih j v hj (V.allUnder_get hb j v hj)
  | tup c hl hc hv ih => exact fun hb => .tup c hl hc fun j v hj => ih j v hj (V.allUnder_get hb j v hj)
  | nilMap => exact fun _ => .nilMap

/-- The objects below n name none from n on. -/
def Store.closed (S : Store) (n : Nat) : Prop := ∀ (id : Nat) (ver : Nat) (e : TypeId) (sz : Nat) (rows : List (List V)), id < n → S[id]? = some ⟨ver, some (.arr e sz rows)⟩ → ∀ r ∈ rows, V.allUnder n r = true

theorem Inv.take {ρ : Place} {S : Store} {w : World} (h : Inv ρ S w) (n : Nat) (hcl : S.closed n) : Inv ρ (S.take n) w where
  rows id ver e sz rows hs := by
    have hid : id < n ∧ S[id]? = some ⟨ver, some (.arr e sz rows)⟩ := by
      rw [List.getElem?_take] at hs
      split at hs
      · rename_i hlt; exact ⟨hlt, hs⟩
      · cases hs
    obtain ⟨h1, h2⟩ := h.rows id ver e sz rows hid.2
    refine ⟨h1, ?_⟩
    rcases h2 with h2 | ⟨g, tot, cur, a, b, c, d, f, k⟩
    · exact .inl h2
    · refine .inr ⟨g, tot, cur, a, b, c, d, f, fun i r hr j v hj => ?_⟩
      obtain ⟨u, hu, hv, h1⟩ := k i r hr j v hj
      exact ⟨u, hu, hv.take n (V.allUnder_get (hcl id ver e sz rows hid.1 hid.2 r (List.mem_of_getElem? hr)) j v hj), h1⟩
  inj i j o p c d g x y hi hj := h.inj i j o p c d g x y (by
    rw [List.getElem?_take] at hi
    split at hi
    · exact hi
    · cases hi) (by
    rw [List.getElem?_take] at hj
    split at hj
    · exact hj
    · cases hj)

section
variable {P : Program}

theorem enter_rel {ρ : Place} {S : Store} {w : World} {args : List V} {us : Array Value} {N : Nat} (hi : Inv ρ S w) (hv : VRs ρ S w args us) (hN : args.length ≤ N) :
    Rel N ρ S w (argEnv 0 args).get { tmps := us ++ Array.replicate (N - us.size) Go.undef, defers := [] } := by
  refine ⟨hi, rfl, by have := hv.1; simp; omega, fun t => ?_⟩
  rw [argEnv_get]
  simp only [Nat.zero_le, if_true, Nat.sub_zero]
  cases ha : args[t]? with
  | none => exact .undef
  | some v =>
    obtain ⟨u, hu, hr⟩ := hv.2 t v ha
    simp only [Option.getD_some]
    have hlt : t < us.size := (Array.getElem?_eq_some_iff.1 hu).1
    rw [Array.getD_eq_getD_getElem?, Array.getElem?_append_left hlt, hu]
    exact hr

theorem compF_some {own : Hint} {fn : Func} {af : AFun} (h : compF P own fn = some af) : ∃ c, fn.body = some c ∧ (fn.name == "runtime.NumGoroutine") = false ∧ fn.ntmps = af.N ∧ resSlots fn.results.toList = some af.res ∧ compC P own af.N c = some af.code := by
  unfold compF at h
  split at h
  · rename_i c res hb hr
    split at h
    · cases h
    · rename_i hn
      simp only [Option.map_eq_some_iff] at h
      obtain ⟨ac, hac, rfl⟩ := h
      exact ⟨c, hb, by simpa using hn, rfl, hr, hac⟩
  · cases h

/-- A function whose walk ends as 'retK' says. -/
theorem CallA.keep {own : Hint} {f : FuncId} {fn : Func} {af : AFun} {args : List V} {S : Store} {R : V → Store → Prop} (hf : P.funcs[f]? = some fn) (hc : compF P own fn = some af) (hN : args.length ≤ af.N)
    (h : ∀ σ : Base, σ.S = S → wpA P af.N σ af.code (retK af.res R) (argEnv 0 args) S) : CallA P f args S R := by
  obtain ⟨c, hb, hname, hnt, hres, hcc⟩ := compF_some hc
  refine ⟨⟨fn, hf, hname, by simp [hb]⟩, fun ρ w us hi hv => ?_⟩
  refine calls_of_wp hf hb ?_
  rw [hnt]
  refine wp_mono (wpA_sound c af.code hcc _ _ _ (h ⟨ρ, S, w⟩ rfl) ρ _ w (Ext.refl _ _ _) (enter_rel hi hv hN)) fun x a w' hp => ?_
  obtain ⟨hok, ρ', E, S', h1, h2, h3⟩ := hp
  have fin : R (resV E.get af.res) S' → a.defers = [] ∧ ∃ v, (results fn a.tmps).run P w' = .ok v w' ∧ ∃ ρ' S' r u, (Ending.returned v) = .returned u ∧ VR ρ' S' w' false r u ∧ Inv ρ' S' w' ∧ Ext ρ S w ρ' S' w' ∧ R r S' := fun hR =>
    ⟨h2.defers, _, results_run hres _ _, ρ', S', _, _, rfl, resV_rel h2.slots af.res, h2.inv, h1, hR⟩
  cases x <;> simp only [okExit] at hok
  · exact fin h3
  · exact h3.elim
  · exact fin h3

/-- A function whose walk ends as 'retA' says: what it made is forgotten. -/
theorem CallA.enter {own : Hint} {f : FuncId} {fn : Func} {af : AFun} {args : List V} {S : Store} {R : V → Store → Prop} (hf : P.funcs[f]? = some fn) (hc : compF P own fn = some af) (hN : args.length ≤ af.N)
    (h : ∀ σ : Base, σ.S = S → wpA P af.N σ af.code (retK af.res fun r S' => r.isImm = true ∧ S'.closed S.length ∧ R r (S'.take S.length)) (argEnv 0 args) S) : CallA P f args S R := by
  have hk := CallA.keep hf hc hN h
  refine ⟨hk.1, fun ρ w us hi hv => (hk.2 ρ w us hi hv).mono fun en w' ⟨ρ', S', r, u, h1, h2, h3, h4, h5, h6, h7⟩ => ?_⟩
  exact ⟨ρ', S'.take S.length, r, u, h1, ((h2.toImm h5 true).imm (take_un _) rfl false), h3.take _ h6, h4.take, h7⟩

/-- The same where the store stands throughout. -/
theorem CallA.quiet {own : Hint} {f : FuncId} {fn : Func} {af : AFun} {args : List V} {S : Store} {R : V → Store → Prop} (hf : P.funcs[f]? = some fn) (hc : compF P own fn = some af) (hN : args.length ≤ af.N)
    (h : ∀ σ : Base, σ.S = S → wpA P af.N σ af.code (retK af.res R) (argEnv 0 args) S) : CallA P f args S R := CallA.keep hf hc hN h
end
end Go.AL
