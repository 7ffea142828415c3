/- Regions in the order of the text, the walk's soundness, loops, and contracts of functions. -/
import Derived.Test.YtkdbghhdklfoiaaDoorSAlD
import Derived.Deep.LoopGhost
namespace Go.AL
set_option linter.unusedSectionVars false
variable [Mode]
section
variable {P : Program} {own : Hint} {N : Nat} {σ : Base}
theorem Rel.put {ρ : Place} {S : Store} {w : World} {E : Env} {a : Act} (h : Rel N ρ S w E.get a) {ρ' : Place} {S' : Store} {w' : World} (hx : Ext ρ S w ρ' S' w') (hi : Inv ρ' S' w') {d : Option Nat}
    (hd : (d.map (fun x => decide (x < N))).getD true = true) {v : V} {u : Value} (hv : VR ρ' S' w' false v u) : Rel N ρ' S' w' (E.put d v).get (a.put d u) := by
  refine ⟨hi, ?_, ?_, (h.slots.ext hx).put (by rw [h.size]; exact hd) hv⟩
  · cases d <;> exact h.defers
  · cases d
    · exact h.size
    · simp [Act.put, h.size]
theorem get_again {E : Env} {t : Nat} {v : V} (h : E.get t = v) : Env.get ((t, v) :: E) = E.get := by
  funext k
  simp only [Env.get]
  split
  · rename_i hk; rw [hk, h]
  · rfl
theorem guard_spec {ops : Array Oper} {g : Option (Nat × Bool)} {g' : Option (Nat × Bool)} (hg : compGuard ops g = some g') {ρ : Place} {S : Store} {w : World} {E : Env} {a : Act} (he : Slots ρ S w E.get a) {A B : Env → Prop} (h : guardA g' E A B)
    {o : Oper} (ho : o.guard = g) : ∃ E' : Env, E'.get = E.get ∧ ((Region.wanted o (yielded ops a.tmps) = true ∧ A E') ∨ (Region.wanted o (yielded ops a.tmps) = false ∧ B E')) := by
  cases g with
  | none =>
    simp only [compGuard, Option.some.injEq] at hg
    subst hg
    exact ⟨E, rfl, .inl ⟨by simp [Region.wanted, ho], h⟩⟩
  | some p =>
    obtain ⟨j, want⟩ := p
    simp only [compGuard] at hg
    split at hg
    · rename_i t ht
      simp only [Option.some.injEq] at hg
      subst hg
      simp only [guardA] at h
      have hy : yielded ops a.tmps j = match a.tmps[t]? with | some (.bool b) => some b | _ => none := by
        unfold yielded
        rw [ht]
        rfl
      have hs := he t
      split at h
      · rename_i x hx
        rw [hx] at hs
        have hb := hs.bool_inv
        have hb' : a.tmps[t]? = some (.bool x) := by
          rw [Array.getD_eq_getD_getElem?] at hb
          cases hq : a.tmps[t]? with
          | none => rw [hq] at hb; simp [Go.undef] at hb
          | some q => rw [hq] at hb; simp at hb; rw [hb]
        rw [hb'] at hy
        simp only at hy
        have hw : Region.wanted o (yielded ops a.tmps) = (x == want) := by simp [Region.wanted, ho, hy]
        rw [hw]
        by_cases hxw : x = want
        · subst hxw
          exact ⟨_, get_again hx, .inl ⟨by simp, h.1 rfl⟩⟩
        · have hxn : x = !want := by cases x <;> cases want <;> simp_all
          exact ⟨_, get_again (by rw [hx, hxn]), .inr ⟨by simpa using hxw, h.2 hxn⟩⟩
      · rename_i hx
        rw [hx] at hs
        have hb := hs.skipped_inv
        have hy' : yielded ops a.tmps j = none := by
          rw [hy]
          rw [Array.getD_eq_getD_getElem?] at hb
          cases hq : a.tmps[t]? with
          | none => rfl
          | some q => rw [hq] at hb; simp at hb; rw [hb]; rfl
        exact ⟨E, rfl, .inr ⟨by simp [Region.wanted, ho, hy'], h⟩⟩
      · cases h
    · cases hg
theorem reg_sound {ops : Array Oper} (Q : Exit → Env → Store → Prop) : ∀ (l : List Oper) (is : List AItem), compItems P own N ops l = some is → ∀ (E : Env) (S : Store), regA P is E S (Q .normal) →
    ∀ (ρ : Place) (a : Act) (w : World), Ext σ.ρ σ.S σ.w ρ S w → Rel N ρ S w E.get a → wpList P ops (post N σ Q) l a w
  | [], is, hc, E, S, h, ρ, a, w, hx, hr => by
    simp only [compItems, Option.some.injEq] at hc
    subst hc
    exact ⟨trivial, ρ, E, S, hx, hr, h⟩
  | o :: l, is, hc, E, S, h, ρ, a, w, hx, hr => by
    simp only [compItems] at hc
    split at hc
    · rename_i s g is' hs hg his
      split at hc
      · rename_i hd
        simp only [Option.some.injEq] at hc
        subst hc
        simp only [regA] at h
        unfold wpList
        obtain ⟨E', hE', hh⟩ := guard_spec hg hr.slots h rfl
        rw [← hE'] at hr
        rcases hh with ⟨hw, hA⟩ | ⟨hw, hB⟩
        · rw [if_pos hw]
          refine .inl ?_
          exact stm_sound hs hr.slots hr.inv hA _ _ fun ρ' S' w' v u h1 h2 h3 h4 => reg_sound Q l is' his _ _ h4 ρ' _ w' (hx.trans h3) (hr.put h3 h2 hd h1)
        · rw [if_neg (by rw [hw]; exact Bool.false_ne_true)]
          exact reg_sound Q l is' his _ _ hB ρ _ w hx (hr.put (Ext.refl _ _ _) hr.inv hd .skipped)
      · cases hc
    · cases hc
theorem compItems_spec {ops : Array Oper} : ∀ {l : List Oper} {is : List AItem}, compItems P own N ops l = some is → is.length = l.length ∧ ∀ (j : Nat) (it : AItem), is[j]? = some it → ∃ o, l[j]? = some o ∧ compStm P own o = some it.stm ∧ compGuard ops o.guard = some it.guard ∧ o.dst = it.dst ∧ (o.dst.map (fun x => decide (x < N))).getD true = true
  | [], is, h => by simp only [compItems, Option.some.injEq] at h; subst h; simp
  | o :: l, is, h => by
    simp only [compItems] at h
    split at h
    · rename_i s g is' hs hg his
      split at h
      · rename_i hd
        simp only [Option.some.injEq] at h
        subst h
        obtain ⟨a, b⟩ := compItems_spec his
        refine ⟨by simp [a], fun j it hj => ?_⟩
        cases j with
        | zero => simp at hj; subst hj; exact ⟨o, rfl, hs, hg, rfl, hd⟩
        | succ j => simp at hj; obtain ⟨o', h1, h2⟩ := b j it hj; exact ⟨o', by simpa using h1, h2⟩
      · cases h
    · cases h
theorem wanted_spec {ops : Array Oper} {o : Oper} {g : Option (Nat × Bool)} (hg : compGuard ops o.guard = some g) {ρ : Place} {S : Store} {w : World} {e : Nat → V} {a : Act} (he : Slots ρ S w e a) {b : Bool} (h : wantedV g e = some b) :
    Region.wanted o (yielded ops a.tmps) = b := by
  cases ho : o.guard with
  | none =>
    rw [ho] at hg
    simp only [compGuard, Option.some.injEq] at hg
    subst hg
    simp only [wantedV, Option.some.injEq] at h
    simp [Region.wanted, ho, h]
  | some p =>
    obtain ⟨j, want⟩ := p
    rw [ho] at hg
    simp only [compGuard] at hg
    split at hg
    · rename_i t ht
      simp only [Option.some.injEq] at hg
      subst hg
      simp only [wantedV] at h
      have hy : yielded ops a.tmps j = match a.tmps[t]? with | some (.bool b) => some b | _ => none := by
        unfold yielded
        rw [ht]
        rfl
      have hs := he t
      split at h
      · rename_i x hx
        rw [hx] at hs
        have hb := hs.bool_inv
        have hb' : a.tmps[t]? = some (.bool x) := by
          rw [Array.getD_eq_getD_getElem?] at hb
          cases hq : a.tmps[t]? with
          | none => rw [hq] at hb; simp [Go.undef] at hb
          | some q => rw [hq] at hb; simp at hb; rw [hb]
        rw [hb'] at hy
        simp only at hy
        simp only [Option.some.injEq] at h
        simp [Region.wanted, ho, hy, ← h]
      · rename_i hx
        rw [hx] at hs
        have hb := hs.skipped_inv
        have hy' : yielded ops a.tmps j = none := by
          rw [hy]
          rw [Array.getD_eq_getD_getElem?] at hb
          cases hq : a.tmps[t]? with
          | none => rfl
          | some q => rw [hq] at hb; simp at hb; rw [hb]; rfl
        simp only [Option.some.injEq] at h
        simp [Region.wanted, ho, hy', ← h]
      · cases h
    · cases hg
theorem Rel.putf {ρ : Place} {S : Store} {w : World} {e : Nat → V} {a : Act} (h : Rel N ρ S w e a) {ρ' : Place} {S' : Store} {w' : World} (hx : Ext ρ S w ρ' S' w') (hi : Inv ρ' S' w') {d : Option Nat}
    (hd : (d.map (fun x => decide (x < N))).getD true = true) {v : V} {u : Value} (hv : VR ρ' S' w' false v u) : Rel N ρ' S' w' (AL.putf e d v) (a.put d u) := by
  refine ⟨hi, ?_, ?_, ?_⟩
  · cases d <;> exact h.defers
  · cases d
    · exact h.size
    · simp [Act.put, h.size]
  · cases d with
    | none => exact h.slots.ext hx
    | some d =>
      intro t
      simp only [Option.map_some, Option.getD_some, decide_eq_true_eq] at hd
      simp only [AL.putf, Act.put, Array.getD_eq_getD_getElem?, Array.getElem?_setIfInBounds]
      have hsz : d < a.tmps.size := by rw [h.size]; exact hd
      by_cases ht : t = d
      · subst ht; simp only [if_true, hsz]; exact hv
      · rw [if_neg ht, if_neg (fun hh => ht hh.symm)]
        have := (h.slots.ext hx) t
        rwa [Array.getD_eq_getD_getElem?] at this
theorem loud_sound {ops : Array Oper} {Q : Exit → Act → World → Prop} {i : Nat} {o : Oper} {it : AItem} {S : Store} {e : Nat → V} {ρ : Place} {a : Act} {w : World} {K : Act → World → Prop} {R : (Nat → V) → Store → Prop} (ho : ops[i]? = some o) (hs : compStm P own o = some it.stm)
    (hg : compGuard ops o.guard = some it.guard) (hdst : o.dst = it.dst) (hd : (o.dst.map (fun x => decide (x < N))).getD true = true) (hx : Ext σ.ρ σ.S σ.w ρ S w) (hr : Rel N ρ S w e a) (hv : sLoud P it R e S)
    (hK : ∀ ρ' S' a' w' e', R e' S' → Ext σ.ρ σ.S σ.w ρ' S' w' → Rel N ρ' S' w' e' a' → K a' w') : wpOp P ops Q i K a w := by
  unfold wpOp
  rw [ho]
  rcases hv with ⟨h1, h2⟩ | ⟨h1, h2⟩
  · have hw := wanted_spec hg hr.slots h1
    simp only [hw, if_true]
    refine .inl (stm_sound hs hr.slots hr.inv h2 _ _ fun ρ' S' w' v' u e1 e2 e3 e4 => ?_)
    rw [hdst] at hd ⊢
    exact hK ρ' S' _ w' _ e4 (hx.trans e3) (hr.putf e3 e2 hd e1)
  · have hw := wanted_spec hg hr.slots h1
    simp only [hw, Bool.false_eq_true, if_false]
    rw [hdst] at hd ⊢
    exact hK ρ S _ w _ h2 hx (hr.putf (Ext.refl _ _ _) hr.inv hd .skipped)
theorem DV.loud {it : AItem} {e : Nat → V} {S : Store} {v : V} (h : DV P it e S v) : sLoud P it (fun e' S' => e' = AL.putf e it.dst v ∧ S' = S) e S := by
  rcases h with ⟨h1, h2⟩ | ⟨h1, rfl⟩
  · exact .inl ⟨h1, stmA_mono (fun r S' ⟨a, b⟩ => ⟨by rw [a], b⟩) (stmA_of_stmV h2)⟩
  · exact .inr ⟨h1, rfl, rfl⟩
theorem sAny_sound {ops : Array Oper} {items : List AItem} {fl : Nat → Fl} {Q : Exit → Env → Store → Prop} (hc : compItems P own N ops ops.toList = some items) :
    ∀ (fuel : Nat) (listed : Array Bool) (e : Nat → V) (S : Store), sAny P ops items fl (fun e S => ∃ E : Env, E.get = e ∧ Q .normal E S) fuel listed e S →
    ∀ ρ a w, Ext σ.ρ σ.S σ.w ρ S w → Rel N ρ S w e a → wpAny P .any ops (post N σ Q) fuel listed a w
  | 0, listed, e, S, h, ρ, a, w, hx, hr => by
    obtain ⟨h1, E, rfl, h2⟩ := h
    exact ⟨h1, trivial, ρ, E, S, hx, hr, h2⟩
  | fuel + 1, listed, e, S, h, ρ, a, w, hx, hr => by
    refine ⟨fun h0 => absurd h0 h.1, fun i hi => ?_⟩
    have h1 := h.2 i hi
    unfold sOp at h1
    split at h1
    · exact h1.elim
    · rename_i it hit
      obtain ⟨o, ho, hs, hg, hdst, hd⟩ := (compItems_spec hc).2 i it hit
      have ho' : ops[i]? = some o := by simpa using ho
      rcases h1 with ⟨_, h1⟩ | ⟨_, v, hv, h1⟩
      · exact loud_sound ho' hs hg hdst hd hx hr h1 fun ρ' S' a' w' e' hR hx' hr' => sAny_sound hc fuel _ _ _ hR ρ' a' w' hx' hr'
      · exact loud_sound ho' hs hg hdst hd hx hr hv.loud fun ρ' S' a' w' e' hR hx' hr' => by
          obtain ⟨rfl, rfl⟩ := hR
          exact sAny_sound hc fuel _ _ _ h1 ρ' a' w' hx' hr'
theorem draw_sound {ops : Array Oper} {items : List AItem} {l : List (Nat × Fl)} {sel : List (Fl × AItem)} {id : Nat} {Q : Exit → Env → Store → Prop} (hc : compItems P own N ops ops.toList = some items) (hm : P.follows .mixedOrders = true) (hok : orderOk ops items l = true) (hsel : selO items l = some sel)
    {E : Env} {S : Store} (h : regO P sel E S (Q .normal)) {ρ : Place} {a : Act} {w : World} (hx : Ext σ.ρ σ.S σ.w ρ S w) (hr : Rel N ρ S w E.get a) : (Code.region id ops true).wp P (post N σ Q) a w := by
  refine wp_region_any hm ?_
  simp only [orderOk, Bool.and_eq_true, decide_eq_true_eq, List.all_eq_true, List.mem_range, List.any_eq_true, beq_iff_eq] at hok
  obtain ⟨⟨hlen, hcov⟩, hok⟩ := hok
  have hx' : Ext σ.ρ σ.S σ.w ρ S w.drew := hx.trans (Ext.drew _ _ _)
  have hr' : Rel N ρ S w.drew E.get a := ⟨hr.inv.drew, hr.defers, hr.size, hr.slots.ext (Ext.drew _ _ _)⟩
  have h0 := sLex (P := P) (ops := ops) (items := items) (Fin := fun e S => ∃ E : Env, E.get = e ∧ Q .normal E S) l (Q .normal) (fun E S hq => ⟨E, rfl, hq⟩) l sel 0 (Array.replicate ops.size false) E S (okO_flags l 0 hok) hok hsel (by simp)
    (fun j => by
      rw [Array.getD_eq_getD_getElem?, Array.getElem?_replicate, Nat.zero_testBit]
      split <;> rfl)
    (fun i o _ hl => by
      rw [Array.getD_eq_getD_getElem?, Array.getElem?_replicate] at hl
      split at hl <;> cases hl)
    (fun j hj => .inr (hcov j hj)) h
  rw [hlen] at h0
  exact sAny_sound hc _ _ _ _ h0 ρ a w.drew hx' hr'
theorem draw_sound2 {ops : Array Oper} {items : List AItem} {pre post_ post2 : List (Nat × Fl)} {sa sb sc : List (Fl × AItem)} {id : Nat} {Q : Exit → Env → Store → Prop} (hc : compItems P own N ops ops.toList = some items) (hm : P.follows .mixedOrders = true) (hok : orderOk2 ops items pre post_ post2 = true) (hsa : selO items pre = some sa) (hsb : selO items post_ = some sb) (hsc : selO items post2 = some sc)
    {E : Env} {S : Store} (h : regO P sa E S fun E S => regO P sb E S (Q .normal) ∧ regO P sc E S (Q .normal)) {ρ : Place} {a : Act} {w : World} (hx : Ext σ.ρ σ.S σ.w ρ S w) (hr : Rel N ρ S w E.get a) : (Code.region id ops true).wp P (post N σ Q) a w := by
  refine wp_region_any hm ?_
  simp only [orderOk2, Bool.and_eq_true, decide_eq_true_eq, List.all_eq_true, List.mem_range, List.any_eq_true, beq_iff_eq] at hok
  obtain ⟨⟨⟨⟨hlen, hcov⟩, hok⟩, hft⟩, hft2⟩ := hok
  split at hok
  rotate_left
  · cases hok
  rename_i d hd
  have hx' : Ext σ.ρ σ.S σ.w ρ S w.drew := hx.trans (Ext.drew _ _ _)
  have hr' : Rel N ρ S w.drew E.get a := ⟨hr.inv.drew, hr.defers, hr.size, hr.slots.ext (Ext.drew _ _ _)⟩
  have hfp : ∀ (l : List (Nat × Fl)) (done : Nat), okP ops items (masks ops) (pre ++ post_) post_ done l = some d → ∀ p ∈ l, flOf (pre ++ post_) p.1 = p.2 := by
    intro l
    induction l with
    | nil => intro done _ p hp; simp at hp
    | cons q l ih =>
      intro done h p hp
      obtain ⟨i, f⟩ := q
      rw [okP] at h
      split at h
      · rename_i h1
        simp only [okI, Bool.and_eq_true, decide_eq_true_eq] at h1
        rcases List.mem_cons.1 hp with h2 | h2
        · subst h2; exact h1.1.2
        · exact ih _ h p h2
      · cases h
  have h0 := sLexP (P := P) (ops := ops) (items := items) (Fin := fun e S => ∃ E : Env, E.get = e ∧ Q .normal E S) (pre ++ post_) post_ post_.length d (fun E S => regO P sb E S (Q .normal) ∧ regO P sc E S (Q .normal)) hft
    (fun listed E S k1 k2 k3 k4 hk => sTwin (pre ++ post_) (Q .normal) (fun E S hq => ⟨E, rfl, hq⟩) post_ post2 sb sc d listed E S hft hft2 hok hsb hsc k1 k2 k3 k4 hk.1 hk.2) pre sa 0 (Array.replicate ops.size false) E S (hfp pre 0 hd) hd hsa (by simp)
    (fun j => by
      rw [Array.getD_eq_getD_getElem?, Array.getElem?_replicate, Nat.zero_testBit]
      split <;> rfl)
    (fun i o _ hl => by
      rw [Array.getD_eq_getD_getElem?, Array.getElem?_replicate] at hl
      split at hl <;> cases hl)
    (fun j hj => .inr (hcov j hj)) h
  rw [List.length_append] at hlen
  rw [hlen] at h0
  exact sAny_sound hc _ _ _ _ h0 ρ a w.drew hx' hr'
theorem draw_soundT {ops : Array Oper} {items : List AItem} {t : AT (Nat × Fl)} {sel : AT (Fl × AItem)} {id : Nat} {Q : Exit → Env → Store → Prop} (hc : compItems P own N ops ops.toList = some items) (hm : P.follows .mixedOrders = true) (hok : orderOkT ops items t = true) (hsel : selT items t = some sel)
    {E : Env} {S : Store} (h : regT P sel E S (Q .normal)) {ρ : Place} {a : Act} {w : World} (hx : Ext σ.ρ σ.S σ.w ρ S w) (hr : Rel N ρ S w E.get a) : (Code.region id ops true).wp P (post N σ Q) a w := by
  refine wp_region_any hm ?_
  simp only [orderOkT, Bool.and_eq_true, decide_eq_true_eq, List.all_eq_true, List.mem_range, List.any_eq_true, beq_iff_eq] at hok
  obtain ⟨hcov, hok⟩ := hok
  have hx' : Ext σ.ρ σ.S σ.w ρ S w.drew := hx.trans (Ext.drew _ _ _)
  have hr' : Rel N ρ S w.drew E.get a := ⟨hr.inv.drew, hr.defers, hr.size, hr.slots.ext (Ext.drew _ _ _)⟩
  have h0 := (sTree (P := P) (ops := ops) (items := items) (Fin := fun e S => ∃ E : Env, E.get = e ∧ Q .normal E S) (fullT t) (Q .normal) (fun E S hq => ⟨E, rfl, hq⟩)
    (fun j hj => by
      obtain ⟨⟨i, f⟩, hp, hi, hf⟩ := hcov j hj
      simp only at hi hf
      subst hi
      exact ⟨f, hp, hf⟩) t sel hsel).1 ops.size 0 (Array.replicate ops.size false) E S hok
    ⟨by simp, fun j => by
      rw [Array.getD_eq_getD_getElem?, Array.getElem?_replicate, Nat.zero_testBit]
      split <;> rfl,
    fun i o _ hl => by
      rw [Array.getD_eq_getD_getElem?, Array.getElem?_replicate] at hl
      split at hl <;> cases hl⟩ h
  exact sAny_sound hc _ _ _ _ h0 ρ a w.drew hx' hr'
theorem post_then {b : Code} {K : Env → Store → Prop} {Q : Exit → Env → Store → Prop} (hb : ∀ E S, K E S → W P N σ b Q E S) (x : Exit) (a : Act) (w : World) (h : post N σ (thenA K Q) x a w) : Exit.then (b.wp P (post N σ Q)) (post N σ Q) x a w := by
  obtain ⟨hok, ρ, E, S, h1, h2, h3⟩ := h
  cases x <;> simp only [okExit] at hok
  · exact hb E S h3 ρ a w h1 h2
  · exact ⟨trivial, ρ, E, S, h1, h2, h3⟩
  · exact ⟨trivial, ρ, E, S, h1, h2, h3⟩
theorem kill_same {ρ : Place} {S : Store} {w : World} (hi : Inv ρ S w) {id ver sz : Nat} {t : TypeId} {rows : List (List V)} (hs : S.obj? id ver = some (t, sz, rows)) : Inv ρ (S.set id ⟨ver, none⟩) w ∧ Ext ρ S w ρ (S.set id ⟨ver, none⟩) w := by
  have hs' := obj_some hs
  have hlt := (List.getElem?_eq_some_iff.1 hs').1
  have low : ∀ (i : Nat) (o : Obj) (c : Cont), (S.set id ⟨ver, none⟩)[i]? = some o → o.st = some c → S[i]? = some o ∧ i ≠ id := fun i o c ho hc => by
    by_cases h : i = id
    · subst h
      rw [List.getElem?_set_self hlt] at ho
      cases ho; cases hc
    · exact ⟨by rwa [List.getElem?_set_ne (fun e => h e.symm)] at ho, h⟩
  have hx : Ext ρ S w ρ (S.set id ⟨ver, none⟩) w := by
    refine ⟨rfl, ⟨rfl, fun _ => Nat.le_refl _⟩, rfl, Nat.le_refl _, fun k hk => ⟨⟨hk.1, fun i o c g' tot' ho hst hr => hk.2 i o c g' tot' (low i o c ho hst).1 hst hr⟩, rfl⟩, by simp, fun i o o' ho ho' => ?_⟩
    by_cases h : i = id
    · subst h
      rw [List.getElem?_set_self hlt] at ho'
      rw [hs'] at ho
      cases ho; cases ho'
      exact ⟨Nat.le_refl _, fun _ c' hc' => by cases hc'⟩
    · rw [List.getElem?_set_ne (fun e => h e.symm), ho] at ho'
      cases ho'
      exact ⟨Nat.le_refl _, fun _ c hc => ⟨c, hc, Cont.like_refl c, rfl⟩⟩
  refine ⟨⟨fun i v e s rs hi' => ?_, fun i j o p c d q x y ho hp hc hd hr hr' => hi.inj i j o p c d q x y (low i o c ho hc).1 (low j p d hp hd).1 hc hd hr hr', maps_of hi hx (fun i v rs hi' => ⟨(low i _ _ hi' rfl).1, rfl⟩) (fun _ _ _ _ _ _ => rfl), tab_of hi hx⟩, hx⟩
  obtain ⟨h1, h2⟩ := hi.rows i v e s rs (low i _ _ hi' rfl).1
  refine ⟨h1, ?_⟩
  rcases h2 with h2 | ⟨g', tot', cur', a, b, c, d, f, k⟩
  · exact .inl h2
  · refine .inr ⟨g', tot', cur', a, b, c, d, f, fun i r hir j y hj => ?_⟩
    obtain ⟨u, hu, hv, h1⟩ := k i r hir j y hj
    exact ⟨u, hu, hv.ext hx, h1⟩
theorem kill_cptr {ρ : Place} {S : Store} {w : World} (hi : Inv ρ S w) {id ver sz : Nat} {t : TypeId} {cells : List V} (hs : S.obj? id ver = some (t, sz, [cells])) {u : Value} {b : Bool} (hr : VR ρ S w b (.ptr id ver 0 0) u) (him : V.allImm cells = true) :
    VR ρ (S.set id ⟨ver, none⟩) w false (.cptr cells) u := by
  have hs' := obj_some hs
  have hlt := (List.getElem?_eq_some_iff.1 hs').1
  have hx := (kill_same hi hs).2
  obtain ⟨g, tot, hg, rfl⟩ := hr.ptr_inv hs
  obtain ⟨cur, b1, b2, b3, b4, b5, b6⟩ := owned_block hi hs hg
  refine .cptr (fun j => (cur[j]?).getD Go.undef) ⟨(Array.getElem?_eq_some_iff.1 b1).1, fun i o c g' tot' ho hst hr' e => ?_⟩ (fun j v hj => ?_) (fun j v hj => ?_) (fun j v hj => ?_)
  · by_cases h : i = id
    · subst h
      rw [List.getElem?_set_self hlt] at ho
      cases ho; cases hst
    · rw [List.getElem?_set_ne (fun e => h e.symm)] at ho
      subst e
      exact h (hi.inj i id o _ c _ g' tot' tot ho hs' hst rfl hr' hg)
  · obtain ⟨x, x1, _, _⟩ := b6 0 cells rfl j v hj
    rw [Nat.zero_mul, Nat.zero_add] at x1
    rw [x1]
    unfold World.cell?
    simp only [b1, Nat.zero_mul, Nat.zero_add]
    exact x1
  · obtain ⟨x, x1, x2, _⟩ := b6 0 cells rfl j v hj
    rw [Nat.zero_mul, Nat.zero_add] at x1
    rw [x1]
    exact (x2.toImm (V.allImm_get him j v hj) true).ext hx
  · obtain ⟨x, x1, _, x3⟩ := b6 0 cells rfl j v hj
    rw [Nat.zero_mul, Nat.zero_add] at x1
    rw [x1]
    exact x3
theorem frz_rel {ρ : Place} {S : Store} {w : World} {E : Env} {a : Act} (h : Rel N ρ S w E.get a) {t : Nat} {K : Env → Store → Prop} (hk : frzB (E.get t) t E S K) : ∃ E' S', Ext ρ S w ρ S' w ∧ Rel N ρ S' w E'.get a ∧ K E' S' := by
  unfold frzB at hk
  split at hk
  · rename_i id ver he
    unfold frzO at hk
    split at hk
    · rename_i ty sz cells hs
      obtain ⟨him, hk⟩ := hk
      obtain ⟨i1, i2⟩ := kill_same h.inv hs
      refine ⟨_, _, i2, ⟨i1, h.defers, h.size, fun k => ?_⟩, hk⟩
      simp only [Env.get]
      by_cases hkt : k = t
      · subst hkt
        rw [if_pos rfl]
        have := h.slots k
        rw [he] at this
        exact kill_cptr h.inv hs this him
      · rw [if_neg hkt]
        exact (h.slots k).ext i2
    · exact hk.elim
  · exact hk.elim
theorem wpA_sound : ∀ (c : Code) (ac : ACode), compC P own N c = some ac → ∀ (Q : Exit → Env → Store → Prop) (E : Env) (S : Store), wpA P N σ ac Q E S → W P N σ c Q E S := by
  intro c
  induction c with
  | skip =>
    intro ac hc Q E S h
    simp only [compC, Option.some.injEq] at hc
    subst hc
    exact fun ρ a w hx hr => wp_skip ⟨trivial, ρ, E, S, hx, hr, h⟩
  | region id ops draw =>
    intro ac hc Q E S h
    cases draw
    · simp only [compC, Option.map_eq_some_iff] at hc
      obtain ⟨is, his, rfl⟩ := hc
      cases hfz : frzOf own N id with
      | none =>
        rw [hfz] at h
        exact fun ρ a w hx hr => wp_region_list (reg_sound Q ops.toList is his E S h ρ a w hx hr)
      | some t =>
        rw [hfz] at h
        refine fun ρ a w hx hr => wp_mono (wp_region_list (reg_sound (thenA (fun E S => frzB (E.get t) t E S (Q .normal)) Q) ops.toList is his E S h ρ a w hx hr)) fun x a' w' hp => ?_
        obtain ⟨hok, ρ', E', S', h1, h2, h3⟩ := hp
        cases x <;> simp only [okExit] at hok
        · obtain ⟨E2, S2, k1, k2, k3⟩ := frz_rel h2 h3
          exact ⟨trivial, ρ', E2, S2, h1.trans k1, k2, k3⟩
        · exact ⟨trivial, ρ', E', S', h1, h2, h3⟩
        · exact ⟨trivial, ρ', E', S', h1, h2, h3⟩
    · simp only [compC] at hc
      split at hc
      · rename_i items his hm
        split at hc
        · split at hc
          · rename_i t ht
            split at hc
            · rename_i hok
              simp only [Option.map_eq_some_iff] at hc
              obtain ⟨sel, hsel, rfl⟩ := hc
              simp only [wpA] at h
              exact fun ρ a w hx hr => draw_soundT his hm hok hsel h hx hr
            · cases hc
          · cases hc
        split at hc
        · split at hc
          · rename_i hok
            simp only [Option.map_eq_some_iff] at hc
            obtain ⟨sel, hsel, rfl⟩ := hc
            simp only [wpA] at h
            exact fun ρ a w hx hr => draw_sound his hm hok hsel h hx hr
          · cases hc
        · rename_i pre post_ post2 hsp
          split at hc
          · rename_i hok
            split at hc
            · rename_i sa sb sc hsa hsb hsc
              simp only [Option.some.injEq] at hc
              subst hc
              simp only [wpA] at h
              exact fun ρ a w hx hr => draw_sound2 his hm hok hsa hsb hsc h hx hr
            · cases hc
          · cases hc
      · cases hc
  | seq a b iha ihb =>
    intro ac hc Q E S h
    simp only [compC] at hc
    split at hc
    · rename_i a' b' ha hb
      simp only [Option.some.injEq] at hc
      subst hc
      simp only [wpA] at h
      exact fun ρ ac w hx hr => wp_seq (wp_mono (iha a' ha _ E S h ρ ac w hx hr) fun x a w hp => post_then (fun E S hk => ihb b' hb Q E S hk) x a w hp)
    · cases hc
  | cond c x y ihx ihy =>
    intro ac hc Q E S h
    simp only [compC] at hc
    split at hc
    · rename_i c' x' y' hcc hx hy
      simp only [Option.some.injEq] at hc
      subst hc
      simp only [wpA, condA] at h
      split at h
      · rename_i b hb
        intro ρ a w hxx hr
        have hv := opd_rel hr.slots hcc
        rw [hb] at hv
        refine wp_cond_split hv.bool_inv (fun hbt => ihx x' hx Q E S (h.1 hbt) ρ a w hxx hr) (fun hbf => ihy y' hy Q E S (h.2 hbf) ρ a w hxx hr)
      · cases h
    · cases hc
  | block id c ih =>
    intro ac hc Q E S h
    simp only [compC, Option.map_eq_some_iff] at hc
    obtain ⟨c', hcc, rfl⟩ := hc
    simp only [wpA] at h
    refine fun ρ a w hx hr => wp_block (wp_mono (ih c' hcc _ E S h ρ a w hx hr) fun x a w hp => ?_)
    obtain ⟨hok, ρ', E', S', h1, h2, h3⟩ := hp
    cases x <;> simp only [okExit] at hok
    · exact ⟨trivial, ρ', E', S', h1, h2, h3⟩
    · rename_i i
      simp only [blockA] at h3
      simp only [Exit.inBlock]
      split
      · rename_i hii; rw [if_pos hii] at h3; exact ⟨trivial, ρ', E', S', h1, h2, h3⟩
      · rename_i hii; rw [if_neg hii] at h3; exact ⟨trivial, ρ', E', S', h1, h2, h3⟩
    · exact ⟨trivial, ρ', E', S', h1, h2, h3⟩
  | loop c ih =>
    intro ac hc Q E S h
    simp only [compC, Option.map_eq_some_iff] at hc
    obtain ⟨c', hcc, rfl⟩ := hc
    exact h c own hcc
  | exit id =>
    intro ac hc Q E S h
    simp only [compC, Option.some.injEq] at hc
    subst hc
    exact fun ρ a w hx hr => wp_exit ⟨trivial, ρ, E, S, hx, hr, h⟩
  | ret =>
    intro ac hc Q E S h
    simp only [compC, Option.some.injEq] at hc
    subst hc
    exact fun ρ a w hx hr => wp_ret ⟨trivial, ρ, E, S, hx, hr, h⟩
  | _ =>
    intro ac hc Q E S h
    simp only [compC, Option.some.injEq] at hc
    subst hc
    exact h.elim
def sub : Env → Env → Prop
  | [], _ => True
  | (k, v) :: r, E => E.get k = v ∧ sub r E
theorem sub_get : ∀ {F E : Env}, sub F E → ∀ t, F.get t = .undef ∨ F.get t = E.get t
  | [], _, _, _ => .inl rfl
  | (k, v) :: r, E, h, t => by
    simp only [Env.get]
    by_cases ht : t = k
    · rw [if_pos ht]; subst ht; exact .inr h.1.symm
    · rw [if_neg ht]; exact sub_get h.2 t
theorem Rel.sub {ρ : Place} {S : Store} {w : World} {E F : Env} {a : Act} (h : Rel N ρ S w E.get a) (hs : AL.sub F E) : Rel N ρ S w F.get a :=
  ⟨h.inv, h.defers, h.size, fun t => by
    rcases sub_get hs t with h1 | h1
    · rw [h1]; exact .undef
    · rw [h1]; exact h.slots t⟩
theorem loopA {ι : Type} (EI : ι → Env) (SI : ι → Store) (inv : ι → Prop) (μ : ι → Nat) {b : ACode} {Q : Exit → Env → Store → Prop} {E : Env} {S : Store} (i0 : ι) (h0 : inv i0) (hE : sub (EI i0) E) (hS : S = SI i0)
    (round : ∀ i, inv i → wpA P N σ b (thenA (fun E' S' => ∃ i', inv i' ∧ μ i' < μ i ∧ sub (EI i') E' ∧ S' = SI i') Q) (EI i) (SI i)) : LoopA P N σ b Q E S := by
  intro c own hc ρ a w hx hr
  refine wp_loop_ghost (fun n a w => ∃ ρ i, n = μ i ∧ inv i ∧ Ext σ.ρ σ.S σ.w ρ (SI i) w ∧ Rel N ρ (SI i) w (EI i).get a) (μ i0) ⟨ρ, i0, rfl, h0, by rw [← hS]; exact hx, by rw [← hS]; exact hr.sub hE⟩ ?_
  rintro n a w ⟨ρ, i, rfl, hi, h1, h2⟩
  refine wp_mono (wpA_sound c b hc _ (EI i) (SI i) (round i hi) ρ a w h1 h2) fun x a w hp => ?_
  obtain ⟨hok, ρ', E', S', h3, h4, h5⟩ := hp
  cases x <;> simp only [okExit] at hok
  · obtain ⟨i', hi', hlt, hs, rfl⟩ := h5
    exact ⟨μ i', hlt, ρ', i', rfl, hi', h3, h4.sub hs⟩
  · exact ⟨trivial, ρ', E', S', h3, h4, h5⟩
  · exact ⟨trivial, ρ', E', S', h3, h4, h5⟩
inductive RS where
  | tmp (t : Nat)
  | cell (t : Nat) (n : Option Nat)
  deriving Inhabited
structure AFun where
  N : Nat
  res : List RS
  code : ACode
def compRes (P : Program) : List ResultVar → Option (List RS)
  | [] => some []
  | .tmp t :: r => (compRes P r).map (.tmp t :: ·)
  | .cell t ty :: r => match isAggT P ty, sizeT P ty with
    | some false, _ => (compRes P r).map (.cell t none :: ·)
    | some true, some n => (compRes P r).map (.cell t (some n) :: ·)
    | _, _ => none
def compF (P : Program) (own : Hint) (fn : Func) : Option AFun :=
  match fn.body, compRes P fn.results.toList with
  | some c, some res => if fn.name == "runtime.NumGoroutine" then none else (compC P own fn.ntmps c).map fun ac => ⟨fn.ntmps, res, ac⟩
  | _, _ => none
def rsV (e : Nat → V) (S : Store) : RS → Option V
  | .tmp t => some (e t)
  | .cell t none => opV e S (.ld1 (.t t))
  | .cell t (some n) => opV e S (.ldn n (.t t))
def tupOf : List V → V
  | [v] => v
  | l => .tup l
def resC (e : Nat → V) (S : Store) (R : V → Store → Prop) : List RS → List V → Prop
  | [], acc => R (tupOf acc) S
  | r :: rs, acc => match rsV e S r with
    | some v => resC e S R rs (acc ++ [v])
    | none => False
def argEnv : Nat → List V → Env
  | _, [] => []
  | k, v :: r => (k, v) :: argEnv (k + 1) r
theorem argEnv_get : ∀ (l : List V) (k t : Nat), (argEnv k l).get t = if k ≤ t then (l[t - k]?).getD .undef else .undef
  | [], k, t => by simp [argEnv, Env.get]
  | v :: r, k, t => by
    simp only [argEnv, Env.get, argEnv_get r (k + 1) t]
    by_cases h : t = k
    · subst h; simp
    · rw [if_neg h]
      by_cases h2 : k ≤ t
      · rw [if_pos (by omega), if_pos h2]
        have : t - k = (t - (k + 1)) + 1 := by omega
        rw [this]
        simp
      · rw [if_neg (by omega), if_neg h2]
def retK (res : List RS) (R : V → Store → Prop) : Exit → Env → Store → Prop := fun x E S =>
  match x with
  | .normal | .ret => resC E.get S R res []
  | _ => False
end
end Go.AL
