/- Every operation without effect, compiled, is sound. -/
import Derived.Test.YtkdbghhdklfoiaaDoorSAl4
namespace Go.AL
set_option linter.unusedSectionVars false
variable [Mode]
section
variable {P : Program} {o : Oper} {a : Act} {ρ : Place} {S : Store} {w : World} {e : Nat → V} {v : V} {ao : AOp}
theorem rowT_some {t q : TypeId} {sz : Nat} {zero : List V} (h : rowT P t = some (q, sz, zero)) :
    P.underlying t = some (.slice q) ∧ ∃ i z, P.info? q = some i ∧ i.size = sz ∧ i.zero = some z ∧ (V.ofVal z).bind V.cells? = some zero ∧ zero.length = sz ∧ 0 < sz := by
  unfold rowT at h
  split at h
  · rename_i q' hq
    split at h
    · rename_i i hi
      split at h
      · rename_i zero' hz
        split at h
        · rename_i hc
          simp only [Option.some.injEq, Prod.mk.injEq] at h
          obtain ⟨rfl, rfl, rfl⟩ := h
          simp only [Option.bind_eq_some_iff] at hz
          obtain ⟨x, ⟨z, hz1, hz2⟩, hz3⟩ := hz
          exact ⟨hq, i, z, hi, rfl, hz1, by simp [hz2, hz3], hc.1, hc.2⟩
        · cases h
      · cases h
    · cases h
  · cases h
theorem opV_sound0 (hc : compOp0 P o = some ao) (he : Slots ρ S w e a) (hi : Inv ρ S w) (h : opV e S ao = some v) : Yields P o a ρ S w v := by
  unfold compOp0 at hc
  cases ho : o.op <;> simp only [ho, reduceCtorEq] at hc
  case move x =>
    simp only [Option.map_eq_some_iff] at hc
    obtain ⟨x', hx, rfl⟩ := hc
    simp only [opV, Option.some.injEq] at h
    subst h
    exact sound_mv (.inl ho) he hi hx
  case assign x =>
    simp only [Option.map_eq_some_iff] at hc
    obtain ⟨x', hx, rfl⟩ := hc
    simp only [opV, Option.some.injEq] at h
    subst h
    exact sound_mv (.inr ho) he hi hx
  case pick c x y =>
    split at hc
    · rename_i c' x' y' h1 h2 h3
      simp only [Option.some.injEq] at hc
      subst hc
      exact sound_pick ho he hi h1 h2 h3 h
    · cases hc
  case binOp op t x y t' =>
    split at hc
    · rename_i x' y' hx hy
      split at hc
      · simp only [Option.some.injEq] at hc; subst hc; exact sound_bin ho he hi hx hy h
      · simp only [Option.some.injEq] at hc; subst hc; exact sound_bin ho he hi hx hy h
      · rename_i ht
        split at hc
        · simp only [Option.some.injEq] at hc; subst hc; exact sound_eqb (neg := false) rfl ho ht he hi hx hy h
        · simp only [Option.some.injEq] at hc; subst hc; exact sound_eqb (neg := true) rfl ho ht he hi hx hy h
        · cases hc
      · rename_i ht; exact sound_nil (k := 0) ho ⟨_, ht⟩ he hi hx hy hc h
      · rename_i ht; exact sound_nil (k := 1) ho ⟨_, ht⟩ he hi hx hy hc h
      · rename_i ht; exact sound_nil (k := 2) ho ⟨_, ht⟩ he hi hx hy hc h
      · rename_i ht; exact sound_nil (k := 3) ho ⟨_, _, _, ht⟩ he hi hx hy hc h
      · rename_i ht; exact sound_nil (k := 4) ho ⟨_, _, ht⟩ he hi hx hy hc h
      · cases hc
    · cases hc
  case nilCheck x =>
    simp only [Option.map_eq_some_iff] at hc
    obtain ⟨x', hx, rfl⟩ := hc
    exact sound_nilChk ho he hi hx h
  case makeInterface t x =>
    split at hc
    · rename_i ht
      simp only [Option.map_eq_some_iff] at hc
      obtain ⟨x', hx, rfl⟩ := hc
      simp only [opV, Option.some.injEq] at h
      subst h
      exact sound_mkIf ho ht he hi hx
    · cases hc
  case typeAssert x xt t ok =>
    split at hc
    · rename_i x' z hx ht hz
      simp only [Option.map_eq_some_iff] at hc
      obtain ⟨zv, hzv, rfl⟩ := hc
      simp only [Option.bind_eq_some_iff] at hz
      obtain ⟨i, hti, hz⟩ := hz
      exact sound_tas ho ht hti hz hzv he hi hx h
    · cases hc
  case unOp op t x =>
    cases op <;> simp only [reduceCtorEq, Option.map_eq_some_iff] at hc
    · obtain ⟨x', hx, rfl⟩ := hc; exact sound_neg ho he hi hx h
    · obtain ⟨x', hx, rfl⟩ := hc; exact sound_not ho he hi hx h
  case index t x i =>
    split at hc
    · rename_i x' i' ht hx hii
      simp only [Option.some.injEq] at hc; subst hc; exact sound_idxS ho ht he hi hx hii h
    · rename_i len q x' i' ht hx hii
      split at hc
      · rename_i hg hz
        simp only [Option.some.injEq] at hc; subst hc; exact sound_idxV ho ht hg hz he hi hx hii h
      · cases hc
    · cases hc
  case indexAddr t x i =>
    split at hc
    · rename_i q x' i' ht hx hii
      simp only [Option.map_eq_some_iff] at hc
      obtain ⟨n, hn, rfl⟩ := hc
      exact sound_idxA ho ht hn he hi hx hii h
    · rename_i len q x' i' ht hx hii
      simp only [Option.map_eq_some_iff] at hc
      obtain ⟨n, hn, rfl⟩ := hc
      exact sound_idxR ho ht hn he hi hx hii h
    · cases hc
  case fieldAddr t x i =>
    split at hc
    · rename_i fields x' ht hx
      split at hc
      · rename_i f hf
        split at hc
        · rename_i m hm
          simp only [Option.some.injEq] at hc; subst hc; exact sound_faddr ho ht hf hm he hi hx h
        · cases hc
      · cases hc
    · cases hc
  case load t x =>
    split at hc
    · rename_i x' hx ht
      simp only [Option.map_eq_some_iff] at hc
      obtain ⟨n, hn, rfl⟩ := hc
      exact sound_ldn ho ht hn he hi hx h
    · rename_i x' hx ht
      simp only [Option.some.injEq] at hc; subst hc; exact sound_ld1 ho ht he hi hx h
    · cases hc
  case field t x i =>
    split at hc
    · rename_i fields x' ht hx
      split at hc
      · rename_i f hf
        split at hc
        · rename_i hg
          simp only [Option.map_eq_some_iff] at hc
          obtain ⟨n, hn, rfl⟩ := hc
          exact sound_fldn ho ht hf hg hn he hi hx h
        · rename_i hg
          simp only [Option.some.injEq] at hc; subst hc; exact sound_fld1 ho ht hf hg he hi hx h
        · cases hc
      · cases hc
    · cases hc
  case convert src dst x =>
    split at hc
    · rename_i j k x' hs hd hx
      simp only [Option.some.injEq] at hc; subst hc; exact sound_conv ho hs hd he hi hx h
    · rename_i q x' hs hd hx
      split at hc
      · rename_i hq
        simp only [Option.some.injEq] at hc; subst hc; exact sound_b2s ho hs hd hq he hi hx h
      · cases hc
    · cases hc
  case extract x i =>
    simp only [Option.map_eq_some_iff] at hc
    obtain ⟨x', hx, rfl⟩ := hc
    exact sound_ext ho he hi hx h
  case build t parts =>
    split at hc
    · rename_i fields i ht hti
      split at hc
      · rename_i z hz
        split at hc
        · rename_i vs ps hv hp hall
          split at hc
          · rename_i hok
            simp only [Option.some.injEq] at hc
            subst hc
            simp only [opV, Option.map_eq_some_iff] at h
            obtain ⟨ws, hw, rfl⟩ := h
            exact sound_build ho ht hti hz hv (by simp only [V.cells?, hok, if_true]) hp hall he hi hw
          · cases hc
        · cases hc
      · cases hc
    · cases hc
  case box t x =>
    simp only [Option.map_eq_some_iff] at hc
    obtain ⟨x', hx, rfl⟩ := hc
    simp only [opV] at h
    split at h
    · rename_i vs hvs
      split at h
      · rename_i him
        simp only [Option.some.injEq] at h
        subst h
        exact sound_boxI ho he hi hx hvs him
      · cases h
    · cases h
  case buildSlice t n parts =>
    split at hc
    · rename_i q sz zero ps hr hp
      split at hc
      · rename_i hmax
        simp only [Option.some.injEq] at hc
        subst hc
        obtain ⟨ht, i, z, h1, h2, h3, h4, h5, h6⟩ := rowT_some hr
        exact sound_bsl ho ht h1 h2 h3 h4 h5 h6 hmax hp he hi h
      · cases hc
    · cases hc
  case makeFunc fn first cap =>
    split at hc
    · rename_i f l m h1 h2
      simp only [Option.some.injEq] at hc
      subst hc
      simp only [opV, Option.some.injEq] at h
      subst h
      exact sound_mkfn ho he hi h1 h2
    · cases hc
  case slice t x lo hi' mx =>
    split at hc
    · rename_i h1 h2 h3 h4
      simp only [Option.some.injEq] at hc; subst hc; exact sound_slS ho h1 he hi h2 h3 h4 h
    · rename_i h1 h2 h3 h4
      simp only [Option.map_eq_some_iff] at hc
      obtain ⟨n, hn, rfl⟩ := hc
      exact sound_slA ho h1 hn he hi h2 h3 h4 h
    · cases hc
  case call c =>
    obtain ⟨callee, args, ts⟩ := c
    unfold compCall at hc
    split at hc
    · cases hc
    · rename_i l hl
      split at hc
      · rename_i b hb
        simp only at hb hl hc
        subst hb
        unfold compBuiltin at hc
        have one : ∀ x', l = [x'] → ∃ x, args = #[x] ∧ opd x = some x' := by
          intro x' hx
          subst hx
          obtain ⟨args⟩ := args
          match args, hl with
          | [], hl => simp [opds] at hl
          | [x], hl =>
            simp only [opds] at hl
            split at hl
            · rename_i h1 h2
              simp only [Option.some.injEq, List.cons.injEq] at hl
              exact ⟨x, rfl, by rw [h1, hl.1]⟩
            · cases hl
          | x :: y :: r, hl =>
            simp only [opds] at hl
            split at hl
            · rename_i h1 h2
              split at h2
              · simp only [Option.some.injEq] at h2; subst h2; simp at hl
              · cases h2
            · cases hl
        have two : ∀ x' y', l = [x', y'] → ∃ x y, args = #[x, y] ∧ opd x = some x' ∧ opd y = some y' := by
          intro x' y' hx
          subst hx
          obtain ⟨args⟩ := args
          match args, hl with
          | [], hl => simp [opds] at hl
          | [x], hl =>
            simp only [opds] at hl
            split at hl
            · rename_i h1 h2
              simp only [Option.some.injEq] at h2
              subst h2
              simp at hl
            · cases hl
          | [x, y], hl =>
            simp only [opds] at hl
            split at hl
            · rename_i h1 h2
              split at h2
              · rename_i h3 h4
                simp only [Option.some.injEq] at h2 h4
                subst h2 h4
                simp only [Option.some.injEq, List.cons.injEq, and_true] at hl
                exact ⟨x, y, rfl, by rw [h1, hl.1], by rw [h3, hl.2]⟩
              · cases h2
            · cases hl
          | x :: y :: z :: r, hl =>
            simp only [opds] at hl
            split at hl
            · rename_i h1 h2
              split at h2
              · rename_i h3 h4
                split at h4
                · simp only [Option.some.injEq] at h2 h4; subst h2 h4; simp at hl
                · cases h4
              · cases h2
            · cases hl
        split at hc
        · rename_i x' t ht
          obtain ⟨x, rfl, hx⟩ := one _ rfl
          obtain ⟨ts⟩ := ts
          simp only at ht
          subst ht
          split at hc
          · rename_i hu
            simp only [Option.some.injEq] at hc; subst hc; exact sound_lenS ho hu he hi hx h
          · rename_i hu
            simp only [Option.some.injEq] at hc; subst hc; exact sound_lenA ho hu he hi hx h
          · cases hc
        · obtain ⟨x, y, rfl, hx, hy⟩ := two _ _ rfl
          simp only [Option.some.injEq] at hc; subst hc; exact sound_minmax (mn := true) rfl ho he hi hx hy h
        · obtain ⟨x, y, rfl, hx, hy⟩ := two _ _ rfl
          simp only [Option.some.injEq] at hc; subst hc; exact sound_minmax (mn := false) rfl ho he hi hx hy h
        · cases hc
      · cases hc
end
end Go.AL
