/- Quoted texts and lines: what is written is read, on both sides. -/
import Derived.Test.YtkdbghhdklfoiaaDoorSFd1
namespace Go.Proofs.YtkdbghhdklfoiaaDoor
open Go Go.AL Go.RowKit
set_option linter.unusedSectionVars false
variable [Go.AL.Mode] [Go.AL.LooseM]
set_option linter.unusedSimpArgs false
set_option linter.unusedVariables false
theorem b256 {P : UInt8 → Prop} (h : ∀ n : Fin 256, P (UInt8.ofNat n.val)) (c : UInt8) : P c := by
  have := h ⟨c.toNat, c.toNat_lt⟩
  simp only [UInt8.ofNat_toNat] at this
  exact this
def hxH (c : UInt8) : UInt8 := hexT[c.toNat / 16]?.getD 0
def hxL (c : UInt8) : UInt8 := hexT[c.toNat % 16]?.getD 0
theorem hx_esc (c : UInt8) : (c.toNat < 32 ∨ 126 < c.toNat) → escX (hxH c) (hxL c) = some (c, 3) :=
  b256 (P := fun c => (c.toNat < 32 ∨ 126 < c.toNat) → escX (hxH c) (hxL c) = some (c, 3)) (by decide +kernel) c
theorem hx_val (c : UInt8) : hexF (hxH c) = (c.toNat / 16 : Nat) ∧ hexF (hxL c) = (c.toNat % 16 : Nat) ∧ hxB (hexF (hxH c)) (hexF (hxL c)) = c :=
  b256 (P := fun c => hexF (hxH c) = (c.toNat / 16 : Nat) ∧ hexF (hxL c) = (c.toNat % 16 : Nat) ∧ hxB (hexF (hxH c)) (hexF (hxL c)) = c) (by decide +kernel) c
theorem hx_not (c : UInt8) : (48 ≤ (hxH c).toNat ∧ (hxH c).toNat ≤ 102 ∧ (hxH c).toNat ≠ 92) ∧ (48 ≤ (hxL c).toNat ∧ (hxL c).toNat ≤ 102 ∧ (hxL c).toNat ≠ 92) :=
  b256 (P := fun c => (48 ≤ (hxH c).toNat ∧ (hxH c).toNat ≤ 102 ∧ (hxH c).toNat ≠ 92) ∧ (48 ≤ (hxL c).toNat ∧ (hxL c).toNat ≤ 102 ∧ (hxL c).toNat ≠ 92)) (by decide +kernel) c
theorem hexF_inv (a : UInt8) : ¬ hexF a < 0 → hexT[(hexF a).toNat]?.getD 0 = a :=
  b256 (P := fun a => ¬ hexF a < 0 → hexT[(hexF a).toNat]?.getD 0 = a) (by decide +kernel) a
theorem hxB_nat : ∀ h l : Fin 16, (hxB (h.val : Nat) (l.val : Nat)).toNat = 16 * h.val + l.val := by decide +kernel
theorem hxB_nat' {h l : Int} (h1 : ¬ h < 0) (h2 : h < 16) (l1 : ¬ l < 0) (l2 : l < 16) : (hxB h l).toNat = 16 * h.toNat + l.toNat := by
  have := hxB_nat ⟨h.toNat, by omega⟩ ⟨l.toNat, by omega⟩
  simp only at this
  rw [show ((h.toNat : Nat) : Int) = h by omega, show ((l.toNat : Nat) : Int) = l by omega] at this
  exact this
theorem qC_hex {c : UInt8} (h : c.toNat < 32 ∨ 126 < c.toNat) : qC c = [92, 120, hxH c, hxL c] := if_pos h
theorem qC_esc {c : UInt8} (h : c.toNat = 34 ∨ c.toNat = 92) : qC c = [92, c] := by
  unfold qC
  rw [if_neg (by omega), if_pos h]
theorem qC_own {c : UInt8} (h1 : ¬ (c.toNat < 32 ∨ 126 < c.toNat)) (h2 : ¬ (c.toNat = 34 ∨ c.toNat = 92)) : qC c = [c] := by
  unfold qC
  rw [if_neg h1, if_neg h2]
theorem qC_len (c : UInt8) : 1 ≤ (qC c).length ∧ (qC c).length ≤ 4 := by
  unfold qC
  split
  · exact ⟨by simp, by simp⟩
  split <;> exact ⟨by simp, by simp⟩
theorem badQ_no {c : UInt8} (h1 : ¬ (c.toNat < 32 ∨ 126 < c.toNat)) (h2 : c.toNat ≠ 34) : ¬ badQ c = true := by
  unfold badQ
  rw [dF h2, dF (show ¬ c.toNat < 32 by omega), dF (show ¬ 126 < c.toNat by omega)]
  simp
theorem badQ_inv {c : UInt8} (h : ¬ badQ c = true) : c.toNat ≠ 34 ∧ ¬ (c.toNat < 32 ∨ 126 < c.toNat) := by
  unfold badQ at h
  simp only [Bool.or_eq_true, decide_eq_true_eq] at h
  omega
theorem unqI_quo : ∀ (t : Txt) (n : Nat), (t.flatMap qC).length < n → unqI n (t.flatMap qC) = some t
  | [], n + 1, _ => rfl
  | c :: t, n + 1, h => by
    rw [List.flatMap_cons] at *
    rw [List.length_append] at h
    have hq := (qC_len c).1
    have ih := unqI_quo t n (by omega)
    by_cases h1 : c.toNat < 32 ∨ 126 < c.toNat
    · rw [qC_hex h1]
      show unqI (n + 1) (92 :: 120 :: hxH c :: hxL c :: t.flatMap qC) = _
      have he : escF (120 :: hxH c :: hxL c :: t.flatMap qC) = some (c, 3) := by
        rw [escF, if_neg (by decide), if_neg (by decide)]
        exact hx_esc c h1
      rw [unqI, if_neg (by decide), if_pos (by decide), he]
      show (unqI n (t.flatMap qC)).map _ = _
      rw [ih]
      rfl
    by_cases h2 : c.toNat = 34 ∨ c.toNat = 92
    · rw [qC_esc h2]
      show unqI (n + 1) (92 :: c :: t.flatMap qC) = _
      have he : escF (c :: t.flatMap qC) = some (c, 1) := by rw [escF, if_pos h2]
      rw [unqI, if_neg (by decide), if_pos (by decide), he]
      show (unqI n (t.flatMap qC)).map _ = _
      rw [ih]
      rfl
    · rw [qC_own h1 h2]
      show unqI (n + 1) (c :: t.flatMap qC) = _
      rw [unqI, if_neg (badQ_no h1 (by omega)), if_neg (by omega), ih]
      rfl
theorem esc_sound {r : Txt} {d : UInt8} {k : Nat} (h : escF r = some (d, k)) : qC d = 92 :: r.take k := by
  match r with
  | [] => cases h
  | c :: r =>
    rw [escF] at h
    by_cases hc : c.toNat = 34 ∨ c.toNat = 92
    · rw [if_pos hc] at h
      cases h
      rw [qC_esc hc]
      rfl
    rw [if_neg hc] at h
    by_cases hx : c.toNat ≠ 120
    · rw [if_pos hx] at h
      cases h
    rw [if_neg hx] at h
    have hce : c = 120 := UInt8.toNat_inj.1 (by show c.toNat = 120; omega)
    match r with
    | [] => cases h
    | [_] => cases h
    | a :: b :: r =>
      rw [show escT (a :: b :: r) = escX a b from rfl] at h
      unfold escX at h
      by_cases q1 : hexF a < 0 ∨ hexF b < 0
      · rw [if_pos q1] at h; cases h
      rw [if_neg q1] at h
      by_cases q2 : 32 ≤ (hxB (hexF a) (hexF b)).toNat ∧ (hxB (hexF a) (hexF b)).toNat ≤ 126
      · rw [if_pos q2] at h; cases h
      rw [if_neg q2] at h
      cases h
      rw [qC_hex (by omega)]
      have ra := hexF_rng a
      have rb := hexF_rng b
      have hn := hxB_nat' (h := hexF a) (l := hexF b) (by omega) (by omega) (by omega) (by omega)
      unfold hxH hxL
      rw [hn, show (16 * (hexF a).toNat + (hexF b).toNat) / 16 = (hexF a).toNat by omega, show (16 * (hexF a).toNat + (hexF b).toNat) % 16 = (hexF b).toNat by omega, hexF_inv a (by omega), hexF_inv b (by omega), hce]
      rfl
theorem unqI_sound : ∀ (n : Nat) (x t : Txt), x.length < n → unqI n x = some t → t.flatMap qC = x
  | n + 1, [], t, _, h => by
    rw [unqI] at h
    cases h
    rfl
  | n + 1, c :: r, t, hl, h => by
    rw [List.length_cons] at hl
    rw [unqI] at h
    by_cases hb : badQ c = true
    · rw [if_pos hb] at h; cases h
    rw [if_neg hb] at h
    obtain ⟨b1, b2⟩ := badQ_inv hb
    by_cases h92 : c.toNat = 92
    · rw [if_pos h92] at h
      have hc : c = 92 := UInt8.toNat_inj.1 h92
      cases he : escF r with
      | none => rw [he] at h; cases h
      | some dk =>
        obtain ⟨d, k⟩ := dk
        rw [he] at h
        simp only [Option.map_eq_some_iff] at h
        obtain ⟨t', h1, rfl⟩ := h
        have hk := escF_k he
        have ih := unqI_sound n (r.drop k) t' (by rw [List.length_drop]; omega) h1
        rw [List.flatMap_cons, ih, esc_sound he, hc, List.cons_append, List.take_append_drop]
    · rw [if_neg h92] at h
      simp only [Option.map_eq_some_iff] at h
      obtain ⟨t', h1, rfl⟩ := h
      have ih := unqI_sound n r t' (by omega) h1
      rw [List.flatMap_cons, ih, qC_own b2 (by omega)]
      rfl
theorem inn_quo (t : Txt) : innF (quoF t) = t.flatMap qC := by
  unfold innF quoF
  simp
theorem unqF_quo (t : Txt) : unqF (quoF t) = some t := by
  have h : unqF (quoF t) = unqI ((quoF t).length + 1) (innF (quoF t)) := by
    refine if_neg ?_
    unfold quoF
    simp
  rw [h, inn_quo, unqI_quo t _ (by unfold quoF; simp; omega)]
theorem unq_shape {s : Txt} (h1 : ¬ s.length < 2) (h2 : s[0]? = some 34) (h3 : s[s.length - 1]? = some 34) : s = 34 :: (innF s ++ [34]) := by
  match s, h1, h2, h3 with
  | a :: r, h1, h2, h3 =>
    have ha : a = 34 := by simpa using h2
    subst ha
    rcases List.eq_nil_or_concat r with rfl | ⟨r', x, rfl⟩
    · simp at h1
    · have hx : x = 34 := by simpa using h3
      subst hx
      unfold innF
      simp
theorem unqF_sound {p t : Txt} (h : unqF p = some t) : quoF t = p := by
  unfold unqF at h
  by_cases hc : p.length < 2 ∨ p[0]? ≠ some 34 ∨ p[p.length - 1]? ≠ some 34
  · rw [if_pos hc] at h; cases h
  rw [if_neg hc] at h
  have hp := unq_shape (s := p) (fun h => hc (.inl h)) (Classical.byContradiction fun h => hc (.inr (.inl h))) (Classical.byContradiction fun h => hc (.inr (.inr h)))
  have hs := unqI_sound _ _ _ (by have : (innF p).length ≤ p.length := by unfold innF; rw [List.length_take, List.length_drop]; omega
                                  omega) h
  unfold quoF
  rw [hs]
  exact hp.symm
theorem flat_len : ∀ t : Txt, t.length ≤ (t.flatMap qC).length ∧ (t.flatMap qC).length ≤ 4 * t.length
  | [] => ⟨Nat.le_refl _, Nat.le_refl _⟩
  | c :: t => by
    have := flat_len t
    have := qC_len c
    rw [List.flatMap_cons, List.length_append, List.length_cons]
    omega
theorem quoF_len (t : Txt) : t.length + 2 ≤ (quoF t).length ∧ (quoF t).length ≤ 4 * t.length + 2 := by
  have := flat_len t
  unfold quoF
  simp only [List.length_cons, List.length_append, List.length_nil]
  omega
theorem hul (p t : Txt) (h : unqF p = some t) : t.length ≤ p.length := by
  have := quoF_len t
  rw [unqF_sound h] at this
  omega
theorem quo_not (t : Txt) : plainF (quoF t) = false := by
  unfold plainF quoF
  rw [List.all_cons]
  have : plainC 34 = false := by decide
  rw [this, Bool.false_and, Bool.and_false]
def wq (t : Txt) : Txt := if plainF t = true then t else quoF t
def joinF (l : List Txt) : Txt := lineF (l.map wq)
theorem wq_len (t : Txt) : (wq t).length ≤ 4 * t.length + 2 := by
  unfold wq
  split
  · omega
  · exact (quoF_len t).2
theorem wordF_wq (t : Txt) : wordF unqF (wq t) = some t := by
  unfold wordF wq
  by_cases h : plainF t = true
  · rw [if_pos h, if_pos h]
  · rw [if_neg h, if_neg (by rw [quo_not]; simp), unqF_quo]
    exact if_neg h
theorem wordF_sound {p t : Txt} (h : wordF unqF p = some t) : wq t = p := by
  unfold wordF at h
  by_cases hp : plainF p = true
  · rw [if_pos hp] at h
    cases h
    exact if_pos hp
  rw [if_neg hp] at h
  cases hu : unqF p with
  | none => rw [hu] at h; cases h
  | some t' =>
    rw [hu] at h
    simp only at h
    by_cases ht : plainF t' = true
    · rw [if_pos ht] at h; cases h
    · rw [if_neg ht] at h
      cases h
      unfold wq
      rw [if_neg ht, unqF_sound hu]
theorem wordsL_wq : ∀ l : List Txt, wordsL unqF (l.map wq) = some l
  | [] => rfl
  | t :: l => by rw [List.map_cons, wordsL, wordF_wq, wordsL_wq l]
theorem wordsL_sound : ∀ {ps l : List Txt}, wordsL unqF ps = some l → l.map wq = ps
  | [], l, h => by cases h; rfl
  | p :: ps, l, h => by
    rw [wordsL] at h
    cases hp : wordF unqF p with
    | none => rw [hp] at h; cases h
    | some t =>
      cases hl : wordsL unqF ps with
      | none => rw [hp, hl] at h; cases h
      | some m =>
        rw [hp, hl] at h
        cases h
        rw [List.map_cons, wordF_sound hp, wordsL_sound hl]
theorem join_snoc (l : List Txt) (y x sep : Txt) : Lib.join (l ++ [y] ++ [x]) sep = Lib.join (l ++ [y]) sep ++ sep ++ x := by
  cases l with
  | nil =>
    rw [List.nil_append, Lib.join_one, List.singleton_append, Lib.join_cons]
    simp [Lib.joinTail]
  | cons a l =>
    rw [List.cons_append, List.cons_append, Lib.join_cons, Lib.join_cons]
    simp [Lib.joinTail]
theorem cut_inv (s : Txt) : ∀ i x, Lib.join ((cutRun s i).ps ++ [x]) [32] = s.take (cutRun s i).fr ++ x
  | 0, x => by
    show Lib.join ([] ++ [x]) [32] = s.take 0 ++ x
    rw [List.nil_append, Lib.join_one, List.take_zero, List.nil_append]
  | i + 1, x => by
    have ih := cut_inv s i
    have hf := (cut_fr s i).1
    unfold cutRun
    cases hc : s[i]? with
    | none => exact ih x
    | some c =>
      simp only
      unfold cutStep
      split
      · exact ih x
      split
      · exact ih x
      split
      · exact ih x
      split
      · rename_i h4
        have hc32 : c = 32 := UInt8.toNat_inj.1 h4.1
        simp only
        rw [join_snoc, ih, take_at hc, hc32]
        have h5 : s.take (cutRun s i).fr ++ (s.take i).drop (cutRun s i).fr = s.take i := by
          have := List.take_append_drop (cutRun s i).fr (s.take i)
          rw [List.take_take, Nat.min_eq_left hf] at this
          exact this
        rw [h5]
      · exact ih x
theorem cut_join {s : Txt} {ps : List Txt} (h : cutF s = some ps) : lineF ps = s := by
  unfold cutF at h
  split at h
  · cases h
    unfold lineF
    rw [cut_inv, List.take_append_drop]
  · cases h
theorem words_sound {s : Txt} {l : List Txt} (h : wordsF unqF s = some l) : joinF l = s := by
  unfold wordsF at h
  by_cases h0 : s = []
  · rw [if_pos h0] at h
    cases h
    subst h0
    rfl
  rw [if_neg h0] at h
  cases hc : cutF s with
  | none => rw [hc] at h; cases h
  | some ps =>
    rw [hc] at h
    unfold joinF
    rw [wordsL_sound h, cut_join hc]
theorem run_step {s : Txt} {i : Nat} {c : UInt8} {r : Txt} {a : Cs} (h : s.drop i = c :: r) (hr : cutRun s i = a) : cutRun s (i + 1) = cutStep s i c a ∧ s.drop (i + 1) = r := by
  obtain ⟨h1, h2⟩ := drop_get h
  exact ⟨by rw [cutRun, h1, hr], h2⟩
theorem st_q {s : Txt} {i f : Nat} {ps : List Txt} {c : UInt8} (h1 : c.toNat ≠ 92) (h2 : c.toNat ≠ 34) : cutStep s i c ⟨f, true, false, ps⟩ = ⟨f, true, false, ps⟩ := by
  unfold cutStep
  rw [if_neg (by simp), if_neg (by simp [h1]), if_neg h2, if_neg (by simp)]
theorem st_b {s : Txt} {i f : Nat} {ps : List Txt} : cutStep s i 92 ⟨f, true, false, ps⟩ = ⟨f, true, true, ps⟩ := by
  unfold cutStep
  rw [if_neg (by simp), if_pos ⟨rfl, rfl⟩]
theorem st_e {s : Txt} {i f : Nat} {ps : List Txt} {c : UInt8} : cutStep s i c ⟨f, true, true, ps⟩ = ⟨f, true, false, ps⟩ := by
  unfold cutStep
  rw [if_pos rfl]
theorem st_o {s : Txt} {i f : Nat} {ps : List Txt} {q : Bool} : cutStep s i 34 ⟨f, q, false, ps⟩ = ⟨f, !q, false, ps⟩ := by
  unfold cutStep
  rw [if_neg (by simp), if_neg (fun h => absurd h.2 (by decide)), if_pos (by decide)]
theorem run_q {s : Txt} {f : Nat} {ps : List Txt} : ∀ {t r : Txt} {i : Nat}, s.drop i = t.flatMap qC ++ r → cutRun s i = ⟨f, true, false, ps⟩ → cutRun s (i + (t.flatMap qC).length) = ⟨f, true, false, ps⟩ ∧ s.drop (i + (t.flatMap qC).length) = r
  | [], r, i, hd, h => ⟨h, hd⟩
  | c :: t, r, i, hd, h => by
    rw [List.flatMap_cons] at *
    by_cases h1 : c.toNat < 32 ∨ 126 < c.toNat
    · rw [qC_hex h1] at *
      obtain ⟨a1, a2⟩ := run_step (r := 120 :: hxH c :: hxL c :: (t.flatMap qC ++ r)) hd h
      rw [st_b] at a1
      obtain ⟨b1, b2⟩ := run_step a2 a1
      rw [st_e] at b1
      obtain ⟨c1, c2⟩ := run_step b2 b1
      have hn := hx_not c
      rw [st_q (by omega) (by omega)] at c1
      obtain ⟨d1, d2⟩ := run_step c2 c1
      rw [st_q (by omega) (by omega)] at d1
      have := run_q d2 d1
      rw [show i + ([92, 120, hxH c, hxL c] ++ t.flatMap qC).length = i + 1 + 1 + 1 + 1 + (t.flatMap qC).length by simp; omega]
      exact this
    by_cases h2 : c.toNat = 34 ∨ c.toNat = 92
    · rw [qC_esc h2] at *
      obtain ⟨a1, a2⟩ := run_step (r := c :: (t.flatMap qC ++ r)) hd h
      rw [st_b] at a1
      obtain ⟨b1, b2⟩ := run_step a2 a1
      rw [st_e] at b1
      have := run_q b2 b1
      rw [show i + ([92, c] ++ t.flatMap qC).length = i + 1 + 1 + (t.flatMap qC).length by simp; omega]
      exact this
    · rw [qC_own h1 h2] at *
      obtain ⟨a1, a2⟩ := run_step (r := t.flatMap qC ++ r) hd h
      rw [st_q (by omega) (by omega)] at a1
      have := run_q a2 a1
      rw [show i + ([c] ++ t.flatMap qC).length = i + 1 + (t.flatMap qC).length by simp; omega]
      exact this
theorem run_wq {s : Txt} {f : Nat} {ps : List Txt} {t r : Txt} {i : Nat} (hd : s.drop i = wq t ++ r) (h : cutRun s i = ⟨f, false, false, ps⟩) : cutRun s (i + (wq t).length) = ⟨f, false, false, ps⟩ := by
  unfold wq at *
  by_cases hp : plainF t = true
  · rw [if_pos hp] at *
    exact run_plain hd (plain_ne hp).2 h
  · rw [if_neg hp] at *
    unfold quoF at *
    obtain ⟨a1, a2⟩ := run_step (c := 34) (r := t.flatMap qC ++ (34 :: r)) (by rw [hd]; simp) h
    rw [st_o] at a1
    obtain ⟨b1, b2⟩ := run_q a2 a1
    obtain ⟨c1, _⟩ := run_step b2 b1
    rw [st_o] at c1
    rw [show i + (34 :: (t.flatMap qC ++ [34])).length = i + 1 + (t.flatMap qC).length + 1 by simp; omega]
    exact c1
theorem wq_ne (t : Txt) : wq t ≠ [] := by
  unfold wq
  split
  · rename_i h
    exact (plain_ne h).1
  · unfold quoF
    simp
theorem qC_ok (c : UInt8) : (qC c).all okC = true :=
  b256 (P := fun c => (qC c).all okC = true) (by decide +kernel) c
theorem wq_ok (t : Txt) : (wq t).all okC = true := by
  unfold wq
  split
  · rename_i h
    exact List.all_eq_true.2 fun c hc => plain_ok (List.all_eq_true.1 (plain_ne h).2 c hc)
  · unfold quoF
    rw [List.all_cons, List.all_append, Bool.and_eq_true, Bool.and_eq_true]
    refine ⟨by decide, List.all_eq_true.2 fun c hc => ?_, by decide⟩
    obtain ⟨d, _, hd⟩ := List.mem_flatMap.1 hc
    exact List.all_eq_true.1 (qC_ok d) c hd
theorem joinF_cons (t t2 : Txt) (l : List Txt) : joinF (t :: t2 :: l) = wq t ++ 32 :: joinF (t2 :: l) := by
  unfold joinF lineF
  rw [List.map_cons, List.map_cons, Lib.join_cons, Lib.join_cons]
  simp [Lib.joinTail]
theorem joinF_one (t : Txt) : joinF [t] = wq t := by
  unfold joinF lineF
  rw [List.map_cons, List.map_nil, Lib.join_one]
theorem run_join {s : Txt} : ∀ {l : List Txt} {i : Nat} {ps : List Txt}, l ≠ [] → s.drop i = joinF l → cutRun s i = ⟨i, false, false, ps⟩ → (cutRun s s.length).ps ++ [s.drop (cutRun s s.length).fr] = ps ++ l.map wq
  | [], _, _, h, _, _ => absurd rfl h
  | [w], i, ps, _, hd, hr => by
    rw [joinF_one] at hd
    have hl := congrArg List.length hd
    rw [List.length_drop] at hl
    have := List.length_pos_iff.2 (wq_ne w)
    have h3 := run_wq (r := []) (by simpa using hd) hr
    rw [show i + (wq w).length = s.length by omega] at h3
    rw [h3]
    simp only
    rw [hd]
    rfl
  | w :: w2 :: l, i, ps, _, hd, hr => by
    rw [joinF_cons] at hd
    have h3 := run_wq hd hr
    have h4 : s.drop (i + (wq w).length) = 32 :: joinF (w2 :: l) := by
      rw [← List.drop_drop, hd, List.drop_left]
    obtain ⟨h5, h6⟩ := drop_get h4
    have h7 := run_blank h5 h3
    have h8 : (s.take (i + (wq w).length)).drop i = wq w := by
      rw [List.drop_take, hd, Nat.add_sub_cancel_left, List.take_left]
    rw [h8] at h7
    have h9 := run_join (by simp) h6 h7
    rw [h9, List.append_assoc]
    rfl
theorem joinF_ok : ∀ l : List Txt, (joinF l).all okC = true
  | [] => rfl
  | [t] => by rw [joinF_one]; exact wq_ok t
  | t :: t2 :: l => by
    rw [joinF_cons, List.all_append, wq_ok, List.all_cons, joinF_ok (t2 :: l)]
    rfl
theorem joinF_ne : ∀ {l : List Txt}, l ≠ [] → joinF l ≠ []
  | [], h => absurd rfl h
  | [t], _ => by rw [joinF_one]; exact wq_ne t
  | t :: t2 :: l, _ => by
    rw [joinF_cons]
    intro e
    exact wq_ne t (List.append_eq_nil_iff.1 e).1
theorem words_join (l : List Txt) : wordsF unqF (joinF l) = some l := by
  by_cases h0 : l = []
  · subst h0
    rfl
  unfold wordsF
  rw [if_neg (joinF_ne h0)]
  have hc : cutF (joinF l) = some (l.map wq) := by
    unfold cutF
    rw [if_pos (joinF_ok l), run_join (l := l) (i := 0) (ps := []) h0 (by rfl) rfl]
    rfl
  rw [hc]
  exact wordsL_wq l
end Go.Proofs.YtkdbghhdklfoiaaDoor
/- The reference's Words: plain. -/
namespace Go.Proofs.YtkdbghhdklfoiaaDoor
open Go Go.AL Go.RowKit
set_option linter.unusedSectionVars false
variable [Go.AL.Mode] [Go.AL.LooseM]
set_option linter.unusedSimpArgs false
set_option linter.unusedVariables false
def qLen : Txt → Nat
  | [] => 0
  | [_] => 1
  | c :: d :: r => if c.toNat = 34 then 1 else if c.toNat = 92 then 2 + qLen r else 1 + qLen (d :: r)
def bN : Txt → Nat
  | [] => 0
  | c :: r => if c.toNat = 32 then 0 else 1 + bN r
def eN : Txt → Nat
  | [] => 0
  | c :: r => if c.toNat = 34 then 1 + qLen r else bN (c :: r)
def hx2 : Txt → Option (UInt8 × Txt)
  | a :: b :: r => if hexF a < 0 ∨ hexF b < 0 then none else some (hxB (hexF a) (hexF b), r)
  | _ => none
def rui : Nat → Txt → Option Txt
  | 0, _ => some []
  | n + 1, c :: d :: r =>
    if c.toNat ≠ 92 then (rui n (d :: r)).map fun t => c :: t
    else if d.toNat ≠ 120 then (rui n r).map fun t => d :: t
    else (match hx2 r with
      | some x => (rui n x.2).map fun t => x.1 :: t
      | none => none)
  | _ + 1, _ => some []
def rU (s : Txt) : Option Txt := match rui (s.length + 1) (s.drop 1) with
  | some b => if quoF b = s then some b else none
  | none => none
def rW1 (w : Txt) : Option Txt := if w.head? = some 34 then rU w else some w
def rL : Nat → Txt → Option (List Txt)
  | 0, _ => some []
  | _ + 1, [] => some []
  | n + 1, c :: r => match rW1 ((c :: r).take (eN (c :: r))) with
    | some t => (rL n ((c :: r).drop (eN (c :: r) + 1))).map fun l => t :: l
    | none => none
def rWords (s : Txt) : Option (List Txt) := match rL (s.length + 1) s with
  | some l => if joinF l = s then some l else none
  | none => none
theorem qLen_c {c : UInt8} {r : Txt} (h1 : c.toNat ≠ 34) (h2 : c.toNat ≠ 92) : qLen (c :: r) = 1 + qLen r := by
  cases r with
  | nil => rfl
  | cons d r => rw [qLen, if_neg h1, if_neg h2]
theorem qLen_q (r : Txt) : qLen (34 :: r) = 1 := by
  cases r with
  | nil => rfl
  | cons d r => rw [qLen, if_pos (by decide)]
theorem qLen_b (d : UInt8) (r : Txt) : qLen (92 :: d :: r) = 2 + qLen r := by
  rw [qLen, if_neg (by decide), if_pos (by decide)]
theorem qLen_le : ∀ s : Txt, qLen s ≤ s.length
  | [] => Nat.le_refl _
  | [_] => Nat.le_refl _
  | c :: d :: r => by
    have h1 := qLen_le r
    have h2 := qLen_le (d :: r)
    rw [qLen, List.length_cons, List.length_cons] at *
    split
    · omega
    split <;> omega
theorem bN_le : ∀ s : Txt, bN s ≤ s.length
  | [] => Nat.le_refl _
  | c :: r => by
    have := bN_le r
    rw [bN, List.length_cons]
    split <;> omega
theorem eN_le : ∀ s : Txt, eN s ≤ s.length
  | [] => Nat.le_refl _
  | c :: r => by
    have h1 := qLen_le r
    have h2 := bN_le (c :: r)
    rw [eN, List.length_cons] at *
    split <;> omega
theorem qLen_quo : ∀ (t r : Txt), qLen (t.flatMap qC ++ 34 :: r) = (t.flatMap qC).length + 1
  | [], r => qLen_q r
  | c :: t, r => by
    have ih := qLen_quo t r
    rw [List.flatMap_cons, List.append_assoc]
    have hn := hx_not c
    by_cases h1 : c.toNat < 32 ∨ 126 < c.toNat
    · rw [qC_hex h1]
      show qLen (92 :: 120 :: hxH c :: hxL c :: (t.flatMap qC ++ 34 :: r)) = _
      rw [qLen_b, qLen_c (by omega) (by omega), qLen_c (by omega) (by omega), ih]
      simp
      omega
    by_cases h2 : c.toNat = 34 ∨ c.toNat = 92
    · rw [qC_esc h2]
      show qLen (92 :: c :: (t.flatMap qC ++ 34 :: r)) = _
      rw [qLen_b, ih]
      simp
      omega
    · rw [qC_own h1 h2]
      show qLen (c :: (t.flatMap qC ++ 34 :: r)) = _
      rw [qLen_c (by omega) (by omega), ih]
      simp
      omega
theorem bN_plain : ∀ {t r : Txt}, t.all plainC = true → (r = [] ∨ ∃ r', r = 32 :: r') → bN (t ++ r) = t.length
  | [], r, _, h => by
    rcases h with rfl | ⟨r', rfl⟩
    · rfl
    · exact if_pos rfl
  | c :: t, r, hp, h => by
    rw [List.all_cons, Bool.and_eq_true] at hp
    have hc := hp.1
    unfold plainC at hc
    simp only [decide_eq_true_eq] at hc
    rw [List.cons_append, bN, if_neg (by omega), bN_plain hp.2 h, List.length_cons]
    omega
theorem eN_wq (t r : Txt) (hr : r = [] ∨ ∃ r', r = 32 :: r') : eN (wq t ++ r) = (wq t).length := by
  unfold wq
  by_cases hp : plainF t = true
  · rw [if_pos hp]
    obtain ⟨h1, h2⟩ := plain_ne hp
    have hb := bN_plain h2 hr
    match t, h1 with
    | c :: t, _ =>
      rw [List.all_cons, Bool.and_eq_true] at h2
      have hc := h2.1
      unfold plainC at hc
      simp only [decide_eq_true_eq] at hc
      rw [List.cons_append] at *
      rw [eN, if_neg (by omega), hb]
  · rw [if_neg hp]
    unfold quoF
    rw [List.cons_append, eN, if_pos (by decide), List.append_assoc, List.singleton_append, qLen_quo]
    simp
    omega
theorem rui_quo : ∀ (t : Txt) (n : Nat), (t.flatMap qC).length < n → rui n (t.flatMap qC ++ [34]) = some t
  | [], n + 1, _ => rfl
  | c :: t, n + 1, h => by
    rw [List.flatMap_cons] at *
    rw [List.length_append] at h
    have hq := (qC_len c).1
    have ih := rui_quo t n (by omega)
    obtain ⟨v1, v2, v3⟩ := hx_val c
    by_cases h1 : c.toNat < 32 ∨ 126 < c.toNat
    · rw [qC_hex h1]
      show rui (n + 1) (92 :: 120 :: hxH c :: hxL c :: (t.flatMap qC ++ [34])) = _
      have he : hx2 (hxH c :: hxL c :: (t.flatMap qC ++ [34])) = some (c, t.flatMap qC ++ [34]) := by rw [hx2, if_neg (by omega), v3]
      rw [rui, if_neg (by decide), if_neg (by decide), he]
      simp only
      rw [ih]
      rfl
    by_cases h2 : c.toNat = 34 ∨ c.toNat = 92
    · rw [qC_esc h2]
      show rui (n + 1) (92 :: c :: (t.flatMap qC ++ [34])) = _
      rw [rui, if_neg (by decide), if_pos (by omega), ih]
      rfl
    · rw [qC_own h1 h2]
      show rui (n + 1) (c :: (t.flatMap qC ++ [34])) = _
      obtain ⟨d, r, hd⟩ : ∃ d r, t.flatMap qC ++ [34] = d :: r := by
        cases t.flatMap qC with
        | nil => exact ⟨_, _, rfl⟩
        | cons d r => exact ⟨d, r ++ [34], rfl⟩
      rw [hd] at ih ⊢
      rw [rui, if_pos (by omega), ih]
      rfl
theorem rU_quo (t : Txt) : rU (quoF t) = some t := by
  have h : rui ((quoF t).length + 1) ((quoF t).drop 1) = some t := by
    show rui ((quoF t).length + 1) (t.flatMap qC ++ [34]) = some t
    exact rui_quo t _ (by unfold quoF; simp; omega)
  unfold rU
  rw [h]
  exact if_pos rfl
theorem rU_sound {s t : Txt} (h : rU s = some t) : quoF t = s := by
  unfold rU at h
  cases hr : rui (s.length + 1) (s.drop 1) with
  | none => rw [hr] at h; cases h
  | some b =>
    rw [hr] at h
    simp only at h
    by_cases hb : quoF b = s
    · rw [if_pos hb] at h
      cases h
      exact hb
    · rw [if_neg hb] at h; cases h
theorem rW1_wq (t : Txt) : rW1 (wq t) = some t := by
  unfold wq
  by_cases hp : plainF t = true
  · rw [if_pos hp]
    obtain ⟨h1, h2⟩ := plain_ne hp
    match t, h1 with
    | c :: t, _ =>
      rw [List.all_cons, Bool.and_eq_true] at h2
      have hc := h2.1
      unfold plainC at hc
      simp only [decide_eq_true_eq] at hc
      refine if_neg ?_
      intro e
      cases e
      exact hc.2.2 rfl
  · rw [if_neg hp]
    unfold rW1
    rw [if_pos (by unfold quoF; rfl), rU_quo]
theorem rL_ne {n : Nat} {s : Txt} (h : s ≠ []) : rL (n + 1) s = match rW1 (s.take (eN s)) with
    | some t => (rL n (s.drop (eN s + 1))).map fun l => t :: l
    | none => none := by
  cases s with
  | nil => exact absurd rfl h
  | cons c r => rfl
theorem rL_join : ∀ (l : List Txt) (n : Nat), (joinF l).length < n → rL n (joinF l) = some l
  | [], n + 1, _ => rfl
  | [t], n + 1, h => by
    rw [joinF_one] at *
    have he := eN_wq t [] (.inl rfl)
    rw [List.append_nil] at he
    have hw := rW1_wq t
    have hn : 0 < (wq t).length := List.length_pos_iff.2 (wq_ne t)
    rw [rL_ne (wq_ne t), he, List.take_length, hw, List.drop_of_length_le (by omega)]
    obtain ⟨m, rfl⟩ : ∃ m, n = m + 1 := ⟨n - 1, by omega⟩
    rfl
  | t :: t2 :: l, n + 1, h => by
    rw [joinF_cons] at *
    have he := eN_wq t (32 :: joinF (t2 :: l)) (.inr ⟨_, rfl⟩)
    have hw := rW1_wq t
    have hn : 0 < (wq t).length := List.length_pos_iff.2 (wq_ne t)
    rw [List.length_append, List.length_cons] at h
    have ih := rL_join (t2 :: l) n (by omega)
    have h1 : (wq t ++ 32 :: joinF (t2 :: l)).take (wq t).length = wq t := List.take_left
    have h2 : (wq t ++ 32 :: joinF (t2 :: l)).drop ((wq t).length + 1) = joinF (t2 :: l) := by
      rw [← List.drop_drop, List.drop_left]
      rfl
    rw [rL_ne (by simp), he, h1, hw, h2]
    simp only
    rw [ih]
    rfl
theorem rWords_eq (s : Txt) : rWords s = wordsF unqF s := by
  unfold rWords
  cases hw : wordsF unqF s with
  | some l =>
    have hj := words_sound hw
    rw [← hj, rL_join l _ (by omega)]
    exact if_pos rfl
  | none =>
    cases hr : rL (s.length + 1) s with
    | none => rfl
    | some l =>
      simp only
      refine if_neg fun hj => ?_
      have := words_join l
      rw [hj, hw] at this
      cases this
end Go.Proofs.YtkdbghhdklfoiaaDoor
