/- Quoted texts: hexadecimal digits, what follows a backslash. -/
import Derived.Test.YtkdbghhdklfoiaaDoorSFdC
import Derived.Test.YtkdbghhdklfoiaaDoorSFaS
import Derived.Test.YtkdbghhdklfoiaaDoorSFb5
namespace Go.Proofs.YtkdbghhdklfoiaaDoor
open Go Go.AL Go.RowKit
set_option linter.unusedSectionVars false
variable [Go.AL.Mode] [Go.AL.LooseM]
set_option linter.unusedSimpArgs false
set_option linter.unusedVariables false
def hexT : Txt := [48, 49, 50, 51, 52, 53, 54, 55, 56, 57, 97, 98, 99, 100, 101, 102]
def hexF (c : UInt8) : Int := if 48 ≤ c.toNat ∧ c.toNat ≤ 57 then (c.toNat : Int) - 48 else if 97 ≤ c.toNat ∧ c.toNat ≤ 102 then (c.toNat : Int) - 87 else -1
theorem hex_index (c : UInt8) : Lib.indexByte hexT c = hexF c := by
  have : ∀ n : Fin 256, Lib.indexByte hexT (UInt8.ofNat n.val) = hexF (UInt8.ofNat n.val) := by decide +kernel
  have h := this ⟨c.toNat, c.toNat_lt⟩
  simp only [UInt8.ofNat_toNat] at h
  exact h
theorem hexF_rng (c : UInt8) : hexF c = -1 ∨ (0 ≤ hexF c ∧ hexF c < 16) := by
  unfold hexF
  split
  · right; omega
  · split
    · right; omega
    · left; rfl
theorem hexF_at (k : Nat) (c : UInt8) (h : hexT[k]? = some c) : hexF c = k := by
  have : ∀ n : Fin 16, ∃ d, hexT[n.val]? = some d ∧ hexF d = n.val := by decide +kernel
  have hk : k < 16 := (List.getElem?_eq_some_iff.1 h).1
  obtain ⟨d, h1, h2⟩ := this ⟨k, hk⟩
  simp only at h1
  rw [h] at h1
  cases h1
  exact h2
theorem index_A (c : UInt8) (S : Store) : CallA Tryd.prog 102 [.str hexT, .int .u8 c.toNat] S fun r S' => r = .int .i64 (hexF c) ∧ S' = S := by
  refine CallA.of_same ⟨_, Tryd.func102, by kernel_rfl, by kernel_rfl⟩ fun ρ w us hv => ?_
  obtain ⟨u, x, rfl, h1, h2⟩ := hv.two
  obtain ⟨s, rfl, hs, _⟩ := h1.str_inv
  have := h2.int_inv
  subst this
  refine ⟨_, .int, ?_⟩
  have h := Tryd.strings_IndexByte s c.toNat w
  rw [hs] at h
  have e : ((c.toNat : Int).toNat.toUInt8) = c := by simp
  rw [e, hex_index] at h
  exact h
def hxB (h l : Int) : UInt8 := UInt8.ofNat (16 * h + l).toNat
def escX (a b : UInt8) : Option (UInt8 × Nat) := if hexF a < 0 ∨ hexF b < 0 then none else if 32 ≤ (hxB (hexF a) (hexF b)).toNat ∧ (hxB (hexF a) (hexF b)).toNat ≤ 126 then none else some (hxB (hexF a) (hexF b), 3)
def escT : Txt → Option (UInt8 × Nat)
  | a :: b :: _ => escX a b
  | _ => none
def escF : Txt → Option (UInt8 × Nat)
  | [] => none
  | c :: r => if c.toNat = 34 ∨ c.toNat = 92 then some (c, 1) else if c.toNat ≠ 120 then none else escT r
def escV (o : Option (UInt8 × Nat)) : V := match o with
  | some (c, k) => .tup [.int .u8 c.toNat, .int .i64 (k : Nat)]
  | none => .tup [.int .u8 0, .int .i64 0]
theorem hx_or : ∀ h l : Fin 16, IntKind.u8.wrap (IntKind.i64.wrap ((BitVec.ofInt IntKind.i64.bits (IntKind.i64.wrap ((h.val : Int) * 16)) ||| BitVec.ofInt IntKind.i64.bits (l.val : Int)).toNat : Nat)) = ((hxB h.val l.val).toNat : Int) := by decide +kernel
set_option maxHeartbeats 1000000 in
theorem escape_A (s : Txt) (S : Store) (hs : s.length ≤ 1000000000) : CallA Tryd.prog 91 [.str s] S fun r S' => r = escV (escF s) ∧ S' = S := by
  refine CallA.keep Tryd.func91 c10091 (Nat.le_of_ble_eq_true rfl) fun σ hσ => ?_
  have ix := fun c S => index_A c S
  unfold hexT at ix
  cases s with
  | nil => simp (disch := first | omega | (simp only [lenT]; omega)) only [a10091, escF, escV, evSt, ↓evPre, ↓evPreW, evPost, evPostW, evR, evU, seval]
  | cons c r =>
    by_cases h1 : (c.toNat : Int) = 34
    · have e : escF (c :: r) = some (c, 1) := by rw [escF, if_pos (.inl (by omega))]
      rw [e]
      simp (disch := first | omega | (simp only [lenT]; omega)) only [a10091, h1, escV, evSt, ↓evPre, ↓evPreW, evPost, evPostW, evR, evU, seval]
      try (first | rfl | omega | (refine ⟨?_, ?_⟩ <;> omega))
    by_cases h2 : (c.toNat : Int) = 92
    · have e : escF (c :: r) = some (c, 1) := by rw [escF, if_pos (.inr (by omega))]
      rw [e]
      simp (disch := first | omega | (simp only [lenT]; omega)) only [a10091, h2, dF h1, escV, evSt, ↓evPre, ↓evPreW, evPost, evPostW, evR, evU, seval]
      try (first | rfl | omega | (refine ⟨?_, ?_⟩ <;> omega))
    by_cases h3 : (c.toNat : Int) = 120
    case neg =>
      have e : escF (c :: r) = none := by rw [escF, if_neg (by omega), if_pos (by omega)]
      rw [e]
      simp (disch := first | omega | (simp only [lenT]; omega)) only [a10091, dF h1, dF h2, dF h3, escV, evSt, ↓evPre, ↓evPreW, evPost, evPostW, evR, evU, seval]
    match r, hs with
    | [], _ =>
      have e : escF [c] = none := by rw [escF, if_neg (by omega), if_neg (by omega)]; rfl
      rw [e]
      simp (disch := first | omega | (simp only [lenT]; omega)) only [a10091, h3, dF h1, dF h2, escV, List.length_cons, List.length_nil, evSt, ↓evPre, ↓evPreW, evPost, evPostW, evR, evU, seval]
    | [a], _ =>
      have e : escF [c, a] = none := by rw [escF, if_neg (by omega), if_neg (by omega)]; rfl
      rw [e]
      simp (disch := first | omega | (simp only [lenT]; omega)) only [a10091, h3, dF h1, dF h2, escV, List.length_cons, List.length_nil, evSt, ↓evPre, ↓evPreW, evPost, evPostW, evR, evU, seval]
    | a :: b :: r, hs =>
      have hl : ¬ ((r.length + 1 + 1 + 1 : Nat) : Int) < 3 := by omega
      simp (disch := first | omega | (simp only [lenT]; omega)) only [a10091, h3, dF h1, dF h2, dF hl, List.length_cons, evSt, ↓evPre, ↓evPreW, evPost, evPostW, evR, evU, seval]
      have e : escF (c :: a :: b :: r) = escX a b := by rw [escF, if_neg (by omega), if_neg (by omega)]; rfl
      rw [e]
      unfold escX
      refine (ix a _).then ?_
      simp (disch := first | omega | (simp only [lenT]; omega)) only [evSt, ↓evPre, ↓evPreW, evPost, evPostW, evR, evU, seval]
      refine (ix b _).then ?_
      by_cases n1 : hexF a < 0
      · rw [if_pos (.inl n1)]
        simp (disch := first | omega | (simp only [lenT]; omega)) only [dT n1, escV, evSt, ↓evPre, ↓evPreW, evPost, evPostW, evR, evU, seval]
      by_cases n2 : hexF b < 0
      · rw [if_pos (.inr n2)]
        simp (disch := first | omega | (simp only [lenT]; omega)) only [dF n1, dT n2, escV, evSt, ↓evPre, ↓evPreW, evPost, evPostW, evR, evU, seval]
      rw [if_neg (by omega)]
      obtain ⟨h, hh⟩ : ∃ h : Fin 16, (h.val : Int) = hexF a := by
        have := hexF_rng a
        exact ⟨⟨(hexF a).toNat, by omega⟩, by simp only; omega⟩
      obtain ⟨l, hl⟩ : ∃ l : Fin 16, (l.val : Int) = hexF b := by
        have := hexF_rng b
        exact ⟨⟨(hexF b).toNat, by omega⟩, by simp only; omega⟩
      have ho := hx_or h l
      rw [hh, hl] at ho
      simp (disch := first | omega | (simp only [lenT]; omega)) only [dF n1, dF n2, evSt, ↓evPre, ↓evPreW, evPost, evPostW, evR, evU, seval]
      have hs4 : shiftV true .i64 (hexF a) 4 = some (.int .i64 (IntKind.i64.wrap (hexF a * 16))) := by
        unfold shiftV
        rw [if_pos (by decide)]
        rfl
      rw [hs4]
      simp (disch := first | omega | (simp only [lenT]; omega)) only [evSt, ↓evPre, ↓evPreW, evPost, evPostW, evR, evU, seval]
      rw [ho]
      generalize hxB (hexF a) (hexF b) = x
      by_cases m1 : (32 : Int) ≤ x.toNat
      · by_cases m2 : (x.toNat : Int) ≤ 126
        · rw [if_pos (by omega)]
          simp (disch := first | omega | (simp only [lenT]; omega)) only [dT m1, dT m2, m1, m2, escV, evSt, ↓evPre, ↓evPreW, evPost, evPostW, evR, evU, seval]
          try exact ⟨fun h => absurd m2 (by omega), fun h => absurd m1 (by omega)⟩
        · rw [if_neg (by omega)]
          simp (disch := first | omega | (simp only [lenT]; omega)) only [dT m1, dF m2, m1, m2, escV, evSt, ↓evPre, ↓evPreW, evPost, evPostW, evR, evU, seval]
      · rw [if_neg (by omega)]
        simp (disch := first | omega | (simp only [lenT]; omega)) only [dF m1, m1, escV, evSt, ↓evPre, ↓evPreW, evPost, evPostW, evR, evU, seval]
end Go.Proofs.YtkdbghhdklfoiaaDoor
/- Quoted texts are read. -/
namespace Go.Proofs.YtkdbghhdklfoiaaDoor
open Go Go.AL Go.RowKit
set_option linter.unusedSectionVars false
variable [Go.AL.Mode] [Go.AL.LooseM]
set_option linter.unusedSimpArgs false
set_option linter.unusedVariables false
def badQ (c : UInt8) : Bool := decide (c.toNat = 34) || (decide (c.toNat < 32) || decide (126 < c.toNat))
def unqI : Nat → Txt → Option Txt
  | 0, _ => some []
  | _ + 1, [] => some []
  | n + 1, c :: r =>
    if badQ c = true then none
    else if c.toNat = 92 then (match escF r with
      | some (d, k) => (unqI n (r.drop k)).map fun t => d :: t
      | none => none)
    else (unqI n r).map fun t => c :: t
def innF (s : Txt) : Txt := (s.drop 1).take (s.length - 2)
def unqF (s : Txt) : Option Txt := if s.length < 2 ∨ s[0]? ≠ some 34 ∨ s[s.length - 1]? ≠ some 34 then none else unqI (s.length + 1) (innF s)
theorem byteRows_app (a b : List UInt8) : byteRows (a ++ b) = byteRows a ++ byteRows b := by simp [byteRows]
theorem byteRows_len (a : List UInt8) : (byteRows a).length = a.length := by simp [byteRows]
theorem LG_b2s {S : Store} {l : List UInt8} {v : V} {S1 : Store} (h : LG S 5 1 (byteRows l) v S1) : b2sV S1 v = some (.str l) := by
  rcases h.here with ⟨rfl, hr⟩ | ⟨id, ver, h3, rfl, h5⟩
  · cases l with
    | nil => exact b2s_nil
    | cons c l => cases hr
  · rw [b2s_msl, h5, byteRows_len, b2sO_some rfl]
theorem escF_k {s : Txt} {d : UInt8} {k : Nat} (h : escF s = some (d, k)) : 1 ≤ k ∧ k ≤ s.length ∧ k ≤ 3 := by
  match s with
  | [] => cases h
  | c :: r =>
    rw [escF] at h
    split at h
    · cases h; simp
    · split at h
      · cases h
      · match r with
        | [] => cases h
        | [_] => cases h
        | a :: b :: r =>
          rw [show escT (a :: b :: r) = escX a b from rfl] at h
          unfold escX at h
          by_cases q1 : hexF a < 0 ∨ hexF b < 0
          · rw [if_pos q1] at h; cases h
          · rw [if_neg q1] at h
            by_cases q2 : 32 ≤ (hxB (hexF a) (hexF b)).toNat ∧ (hxB (hexF a) (hexF b)).toNat ≤ 126
            · rw [if_pos q2] at h; cases h
            · rw [if_neg q2] at h; cases h; simp
set_option maxHeartbeats 2000000 in
theorem unq_A (s : Txt) (hs : s.length ≤ 1000000) (S : Store) : CallA Tryd.prog 62 [.str s] S fun r S' => r = unqV (unqF s) ∧ S' = S := by
  refine CallA.withNeat Tryd.func62 c10062 fun hn => ?_
  refine CallA.fin Tryd.func62 c10062 (Nat.le_of_ble_eq_true rfl) fun σ hσ => ?_
  have bad : ∃ r1 S1, Fgt S S1 ∧ Frz S S1 (.tup [.str [], .int .i64 3]) r1 ∧ S.length ≤ S1.length ∧ r1 = unqV none ∧ S1 = S := ⟨_, S, hn.self, .imm rfl, Nat.le_refl _, rfl, rfl⟩
  by_cases h1 : (s.length : Int) < 2
  · rw [show unqF s = none from if_pos (.inl (by omega))]
    simp (disch := first | omega | (simp only [lenT]; omega)) only [a10062, dT h1, evSt, ↓evPre, ↓evPreW, evPost, evPostW, evR, evU, seval]
    exact bad
  have hn1 : (s.length : Int) - 1 = ((s.length - 1 : Nat) : Int) := by omega
  obtain ⟨a, ha⟩ : ∃ a, s[0]? = some a := ⟨_, List.getElem?_eq_getElem (by omega)⟩
  obtain ⟨b, hb⟩ : ∃ b, s[s.length - 1]? = some b := ⟨_, List.getElem?_eq_getElem (by omega)⟩
  by_cases h2 : (a.toNat : Int) = 34
  case neg =>
    have : a ≠ 34 := fun e => by rw [e] at h2; exact h2 rfl
    rw [show unqF s = none from if_pos (.inr (.inl (by rw [ha]; intro e; exact this (Option.some.inj e))))]
    simp (disch := first | omega | (simp only [lenT]; omega)) only [a10062, dF h1, dF h2, ha, evSt, ↓evPre, ↓evPreW, evPost, evPostW, evR, evU, seval]
    exact bad
  by_cases h3 : (b.toNat : Int) = 34
  case neg =>
    have : b ≠ 34 := fun e => by rw [e] at h3; exact h3 rfl
    rw [show unqF s = none from if_pos (.inr (.inr (by rw [hb]; intro e; exact this (Option.some.inj e))))]
    simp (disch := first | omega | (simp only [lenT]; omega)) only [a10062, dF h1, h2, dF h3, ha, hb, hn1, wrap_i64, evSt, ↓evPre, ↓evPreW, evPost, evPostW, evR, evU, seval]
    exact bad
  have ea : a = 34 := UInt8.toNat_inj.1 (by show a.toNat = 34; omega)
  have eb : b = 34 := UInt8.toNat_inj.1 (by show b.toNat = 34; omega)
  have hq : unqF s = unqI (s.length + 1) (innF s) := if_neg (by rw [ha, hb, ea, eb]; simp; omega)
  have hin : (innF s).length = s.length - 2 := by unfold innF; rw [List.length_take, List.length_drop]; omega
  have hsl : (s.drop 1).take (s.length - 1 - 1) = innF s := rfl
  simp (disch := first | omega | (simp only [lenT]; omega)) only [a10062, dF h1, h2, h3, ha, hb, hn1, wrap_i64, evSt, ↓evPre, ↓evPreW, evPost, evPostW, evR, evU, seval]
  rw [if_pos ⟨by omega, by omega⟩, hsl, hq]
  generalize innF s = t at *
  clear hsl hq ha hb ea eb h2 h3 a b hn1
  simp (disch := first | omega | (simp only [lenT]; omega)) only [evSt, ↓evPre, ↓evPreW, evPost, evPostW, evR, evU, seval]
  refine ⟨by unfold roomA; omega, ?_⟩
  refine loopF (ι := Nat × Nat × Txt × V × Store) (fun i => [(4, .str t), (5, i.2.2.2.1), (6, .int .i64 i.1)]) (fun i => i.2.2.2.2)
    (fun i => i.1 ≤ t.length ∧ t.length < i.1 + i.2.1 ∧ i.2.2.1.length ≤ i.1 ∧ unqI (s.length + 1) t = (unqI i.2.1 (t.drop i.1)).map (fun x => i.2.2.1 ++ x) ∧ LG S 5 1 (byteRows i.2.2.1) i.2.2.2.1 i.2.2.2.2) (fun i => t.length - i.1)
    (fun i hi => by rw [hσ]; obtain ⟨T, hT⟩ := hi.2.2.2.2.ext; rw [hT]; simp) (0, s.length + 1, [], .msl S.length 0 0 0, S ++ [⟨0, some (.arr 5 1 [])⟩]) ⟨Nat.zero_le _, by simp only; omega, Nat.zero_le _, by simp, ⟨⟨_, rfl⟩, .inr ⟨S.length, 0, Nat.le_refl _, rfl, ob_app0.trans ob_head⟩⟩⟩ (.inl ⟨?_, rfl⟩) ?_
  · simp only [↓evPre, ↓evPreW, evPost, evPostW, evR, evU, seval]
    try rfl
  rintro ⟨i, n, acc, v, S1⟩ ⟨hi, hf, hacl, hu, hg⟩
  simp only at hi hf hacl hu hg ⊢
  obtain ⟨m, rfl⟩ : ∃ m, n = m + 1 := ⟨n - 1, by omega⟩
  have badL : unqI (s.length + 1) t = none → ∃ r1 S2, Fgt S1 S2 ∧ Frz S1 S2 (.tup [.str [], .int .i64 3]) r1 ∧ S.length ≤ S2.length ∧ r1 = unqV (unqI (s.length + 1) t) ∧ S2 = S := fun h => ⟨_, S, hg.fgt hn, .imm rfl, Nat.le_refl _, by rw [h]; rfl, rfl⟩
  cases hc : t[i]? with
  | none =>
    have hge : t.length ≤ i := List.getElem?_eq_none_iff.1 hc
    have hlt : ¬ ((i : Int) < t.length) := by omega
    rw [List.drop_of_length_le hge, unqI] at hu
    have hb := LG_b2s hg
    simp (disch := first | omega | (simp only [lenT]; omega)) only [dF hlt, hb, evSt, ↓evPre, ↓evPreW, evPost, evPostW, evR, evU, seval]
    exact ⟨_, S, hg.fgt hn, .imm rfl, Nat.le_refl _, by rw [hu]; simp [unqV], rfl⟩
  | some c =>
    have hlt' := (List.getElem?_eq_some_iff.1 hc).1
    have hlt : ((i : Int) < t.length) := by omega
    have hk1 : (i : Int) + 1 = ((i + 1 : Nat) : Int) := by omega
    rw [drop_at hc, unqI] at hu
    by_cases q1 : (c.toNat : Int) = 34
    · have hb : badQ c = true := by unfold badQ; rw [dT (show c.toNat = 34 by omega)]; rfl
      rw [if_pos hb] at hu
      simp (disch := first | omega | (simp only [lenT]; omega)) only [dT hlt, hc, q1, evSt, ↓evPre, ↓evPreW, evPost, evPostW, evR, evU, seval]
      exact badL hu
    by_cases q2 : (c.toNat : Int) < 32
    · have hb : badQ c = true := by unfold badQ; rw [dT (show c.toNat < 32 by omega)]; simp
      rw [if_pos hb] at hu
      simp (disch := first | omega | (simp only [lenT]; omega)) only [dT hlt, hc, dF q1, dT q2, evSt, ↓evPre, ↓evPreW, evPost, evPostW, evR, evU, seval]
      exact badL hu
    by_cases q3 : 126 < (c.toNat : Int)
    · have hb : badQ c = true := by unfold badQ; rw [dT (show 126 < c.toNat by omega)]; simp
      rw [if_pos hb] at hu
      simp (disch := first | omega | (simp only [lenT]; omega)) only [dT hlt, hc, dF q1, dF q2, dT q3, evSt, ↓evPre, ↓evPreW, evPost, evPostW, evR, evU, seval]
      exact badL hu
    have hb : badQ c = false := by unfold badQ; rw [dF (show ¬ c.toNat = 34 by omega), dF (show ¬ c.toNat < 32 by omega), dF (show ¬ 126 < c.toNat by omega)]; rfl
    rw [if_neg (by rw [hb]; simp)] at hu
    by_cases q4 : (c.toNat : Int) = 92
    case neg =>
      rw [if_neg (by omega)] at hu
      simp (disch := first | omega | (simp only [lenT]; omega)) only [dT hlt, hc, dF q1, dF q2, dF q3, dF q4, evSt, ↓evPre, ↓evPreW, evPost, evPostW, evR, evU, seval]
      refine hg.app (by rw [byteRows_len]; simp; omega) fun v' S2 h2 => ?_
      rw [show byteRows acc ++ [[V.int .u8 c.toNat]] = byteRows (acc ++ [c]) by rw [byteRows_app]; rfl] at h2
      simp (disch := first | omega | (simp only [lenT]; omega)) only [wrap_i64, hk1, evSt, ↓evPre, ↓evPreW, evPost, evPostW, evR, evU, seval]
      refine ⟨(i + 1, m, acc ++ [c], v', S2), ⟨by simp only; omega, by simp only; omega, by simp; omega, ?_, h2⟩, by simp only; omega, .inl ⟨by simp only [↓evPre, ↓evPreW, evPost, evPostW, evR, evU, seval]; try rfl, rfl⟩⟩
      rw [hu, Option.map_map]
      congr 1
      funext x
      simp
    · rw [if_pos (by omega)] at hu
      have es := fun S => escape_A (t.drop (i + 1)) S (by rw [List.length_drop]; omega)
      have hdr : (t.drop (i + 1)).take (t.length - (i + 1)) = t.drop (i + 1) := List.take_of_length_le (by rw [List.length_drop]; omega)
      simp (disch := first | omega | (simp only [lenT]; omega)) only [dT hlt, hc, q4, wrap_i64, hk1, evSt, ↓evPre, ↓evPreW, evPost, evPostW, evR, evU, seval]
      rw [if_pos ⟨by omega, by omega⟩, hdr]
      simp (disch := first | omega | (simp only [lenT]; omega)) only [evSt, ↓evPre, ↓evPreW, evPost, evPostW, evR, evU, seval]
      refine (es _).then ?_
      cases he : escF (t.drop (i + 1)) with
      | none =>
        rw [he] at hu
        simp (disch := first | omega | (simp only [lenT]; omega)) only [escV, evSt, ↓evPre, ↓evPreW, evPost, evPostW, evR, evU, seval]
        exact badL hu
      | some dk =>
        obtain ⟨d, k⟩ := dk
        obtain ⟨k1, k2, k3⟩ := escF_k he
        rw [List.length_drop] at k2
        rw [he] at hu
        simp only [List.drop_drop] at hu
        have hk0 : ¬ (k : Int) = 0 := by omega
        have hik : (i : Int) + (k : Int) = ((i + k : Nat) : Int) := by omega
        have hik1 : ((i + k : Nat) : Int) + 1 = ((i + 1 + k : Nat) : Int) := by omega
        simp (disch := first | omega | (simp only [lenT]; omega)) only [escV, dF hk0, wrap_i64, hik, evSt, ↓evPre, ↓evPreW, evPost, evPostW, evR, evU, seval]
        refine hg.app (by rw [byteRows_len]; simp; omega) fun v' S2 h2 => ?_
        rw [show byteRows acc ++ [[V.int .u8 d.toNat]] = byteRows (acc ++ [d]) by rw [byteRows_app]; rfl] at h2
        simp (disch := first | omega | (simp only [lenT]; omega)) only [wrap_i64, hik1, evSt, ↓evPre, ↓evPreW, evPost, evPostW, evR, evU, seval]
        refine ⟨(i + 1 + k, m, acc ++ [d], v', S2), ⟨by simp only; omega, by simp only; omega, by simp; omega, ?_, h2⟩, by simp only; omega, .inl ⟨by simp only [↓evPre, ↓evPreW, evPost, evPostW, evR, evU, seval]; try rfl, rfl⟩⟩
        rw [hu, Option.map_map]
        congr 1
        funext x
        simp
end Go.Proofs.YtkdbghhdklfoiaaDoor
/- Quoted texts, the reference's. -/
namespace Go.Proofs.YtkdbghhdklfoiaaDoor
open Go Go.AL Go.RowKit
set_option linter.unusedSectionVars false
variable [Go.AL.Mode] [Go.AL.LooseM]
set_option linter.unusedSimpArgs false
set_option linter.unusedVariables false
def qC (c : UInt8) : Txt := if c.toNat < 32 ∨ 126 < c.toNat then [92, 120, hexT[c.toNat / 16]?.getD 0, hexT[c.toNat % 16]?.getD 0] else if c.toNat = 34 ∨ c.toNat = 92 then [92, c] else [c]
def quoF (s : Txt) : Txt := 34 :: (s.flatMap qC ++ [34])
theorem rhex_A (c : UInt8) (S : Store) : CallA Tryd.prog 93 [.int .u8 c.toNat] S fun r S' => r = .int .i64 (hexF c) ∧ S' = S := by
  refine CallA.keep Tryd.func93 c10093 (Nat.le_of_ble_eq_true rfl) fun σ hσ => ?_
  simp (disch := first | omega | (simp only [lenT]; omega)) only [a10093, evSt, ↓evPre, ↓evPreW, evPost, evPostW, evR, evU, seval]
  refine loopA (ι := Nat) (fun k => [(0, .int .u8 c.toNat), (3, .int .i64 (k : Nat))]) (fun _ => S) (fun k => k ≤ 16 ∧ ∀ j, j < k → hexT[j]? ≠ some c) (fun k => 16 - k) 0 ⟨Nat.zero_le _, fun j hj => by omega⟩ ?_ rfl ?_
  · simp only [↓evPre, ↓evPreW, evPost, evPostW, evR, evU, seval]
    try rfl
  rintro k ⟨hk, hne⟩
  by_cases hlt : (k : Int) < 16
  · have hk1 : (k : Int) + 1 = ((k + 1 : Nat) : Int) := by omega
    obtain ⟨d, hd⟩ : ∃ d, hexT[k]? = some d := ⟨_, List.getElem?_eq_getElem (by show k < 16; omega)⟩
    have hd' := hd
    unfold hexT at hd'
    by_cases he : d = c
    · subst he
      simp (disch := first | omega | (simp only [lenT]; omega)) only [dT hlt, hd', evSt, ↓evPre, ↓evPreW, evPost, evPostW, evR, evU, seval]
      rw [hexF_at k d hd]
    · have he' : ¬ ((d.toNat : Int) = c.toNat) := fun h => he (UInt8.toNat_inj.1 (by omega))
      simp (disch := first | omega | (simp only [lenT]; omega)) only [dT hlt, hd', dF he', wrap_i64, hk1, evSt, ↓evPre, ↓evPreW, evPost, evPostW, evR, evU, seval]
      refine ⟨k + 1, ⟨by omega, fun j hj => ?_⟩, by omega, by first | rfl | exact ⟨rfl, rfl⟩ | exact ⟨rfl, rfl, rfl⟩⟩
      by_cases hjk : j = k
      · rw [hjk, hd]
        intro h
        exact he (Option.some.inj h)
      · exact hne j (by omega)
  · have hno : hexF c = -1 := by
      have : ∀ n : Fin 256, hexF (UInt8.ofNat n.val) = -1 ∨ ∃ j : Fin 16, hexT[j.val]? = some (UInt8.ofNat n.val) := by decide +kernel
      have h := this ⟨c.toNat, c.toNat_lt⟩
      simp only [UInt8.ofNat_toNat] at h
      rcases h with h | ⟨j, h⟩
      · exact h
      · exact absurd h (hne j.val (by omega))
    simp (disch := first | omega | (simp only [lenT]; omega)) only [dF hlt, evSt, ↓evPre, ↓evPreW, evPost, evPostW, evR, evU, seval]
    rw [hno]
theorem rplain_A (s : Txt) (hs : s.length ≤ 9223372036854775807) (S : Store) : CallA Tryd.prog 65 [.str s] S fun r S' => r = .bool (plainF s) ∧ S' = S := by
  refine CallA.keep Tryd.func65 c10065 (Nat.le_of_ble_eq_true rfl) fun σ hσ => ?_
  simp (disch := first | omega | (simp only [lenT]; omega)) only [a10065, evSt, ↓evPre, ↓evPreW, evPost, evPostW, evR, evU, seval]
  refine loopA (ι := Nat) (fun k => [(0, .str s), (3, .int .i64 (k : Nat))]) (fun _ => S) (fun k => k ≤ s.length ∧ (s.take k).all plainC = true) (fun k => s.length - k) 0 ⟨Nat.zero_le _, rfl⟩ ?_ rfl ?_
  · simp only [↓evPre, ↓evPreW, evPost, evPostW, evR, evU, seval]
    try rfl
  rintro k ⟨hk, hall⟩
  cases hc : s[k]? with
  | none =>
    have hge : s.length ≤ k := List.getElem?_eq_none_iff.1 hc
    have hlt : ¬ ((k : Int) < s.length) := by omega
    rw [List.take_of_length_le hge] at hall
    unfold plainF
    rw [hall, Bool.and_true]
    by_cases h0 : s = []
    · subst h0
      have k0 : k = 0 := by simpa using hk
      subst k0
      simp (disch := first | omega | (simp only [lenT]; omega)) only [dF hlt, List.length_nil, evSt, ↓evPre, ↓evPreW, evPost, evPostW, evR, evU, seval]
      try simp
    · rw [dT h0]
      simp (disch := first | omega | (simp only [lenT]; omega)) only [dF hlt, dF h0, evSt, ↓evPre, ↓evPreW, evPost, evPostW, evR, evU, seval]
  | some c =>
    have hlt' := (List.getElem?_eq_some_iff.1 hc).1
    have hlt : ((k : Int) < s.length) := by omega
    have hk1 : (k : Int) + 1 = ((k + 1 : Nat) : Int) := by omega
    have hbad : plainC c = false → plainF s = false := fun h => by
      unfold plainF
      rw [all_bad hc h, Bool.and_false]
    by_cases q1 : (c.toNat : Int) < 33
    · rw [hbad (by unfold plainC; exact dF (by omega))]
      simp (disch := first | omega | (simp only [lenT]; omega)) only [dT hlt, hc, dT q1, evSt, ↓evPre, ↓evPreW, evPost, evPostW, evR, evU, seval]
    by_cases q2 : 126 < (c.toNat : Int)
    · rw [hbad (by unfold plainC; exact dF (by omega))]
      simp (disch := first | omega | (simp only [lenT]; omega)) only [dT hlt, hc, dF q1, dT q2, evSt, ↓evPre, ↓evPreW, evPost, evPostW, evR, evU, seval]
    by_cases q3 : (c.toNat : Int) = 34
    · rw [hbad (by unfold plainC; exact dF (by omega))]
      simp (disch := first | omega | (simp only [lenT]; omega)) only [dT hlt, hc, dF q1, dF q2, q3, evSt, ↓evPre, ↓evPreW, evPost, evPostW, evR, evU, seval]
    simp (disch := first | omega | (simp only [lenT]; omega)) only [dT hlt, hc, dF q1, dF q2, dF q3, wrap_i64, hk1, evSt, ↓evPre, ↓evPreW, evPost, evPostW, evR, evU, seval]
    exact ⟨k + 1, ⟨by omega, all_next hall hc (by unfold plainC; exact dT (by omega))⟩, by omega, by first | rfl | exact ⟨rfl, rfl⟩ | exact ⟨rfl, rfl, rfl⟩⟩
end Go.Proofs.YtkdbghhdklfoiaaDoor
