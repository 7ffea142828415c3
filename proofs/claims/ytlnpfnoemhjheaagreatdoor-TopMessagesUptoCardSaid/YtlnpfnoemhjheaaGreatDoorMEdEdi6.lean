/- Lines as text: the reference. -/
import Derived.Test.YtlnpfnoemhjheaaGreatDoorMEdEdi3
namespace Go.Proofs.YtlnpfnoemhjheaaGreatDoor.Ed
open Go Go.AL
set_option linter.unusedSectionVars false
variable [Go.AL.Mode] [Go.AL.LooseM]
set_option linter.unusedSimpArgs false
set_option linter.unusedVariables false
def relC (c : UInt8) : Txt := if specC c then [63, c] else [c]
def rel (s : Txt) : Txt := s.flatMap relC
def sepC (k : Nat) : UInt8 := if k = 0 then 43 else 58
def outE : Nat → List Txt → Txt
  | _, [] => []
  | k, c :: r => sepC k :: rel c ++ outE (k + 1) r
def outX (x : Ln) : Txt := x.tag ++ x.els.flatMap (outE 0) ++ [39]
def outL (l : List Ln) : Txt := l.flatMap outX
theorem flat_take {α : Type} {f : α → Txt} {l : List α} {k : Nat} {x : α} (h : l[k]? = some x) : (l.take (k + 1)).flatMap f = (l.take k).flatMap f ++ f x := by
  rw [List.take_add_one, h]; simp
theorem outE_take : ∀ (e : List Txt) (j k : Nat) (c : Txt), e[k]? = some c → outE j (e.take (k + 1)) = outE j (e.take k) ++ sepC (j + k) :: rel c
  | [], j, k, c, h => by simp at h
  | d :: e, j, 0, c, h => by simp at h; subst h; simp [outE]
  | d :: e, j, k + 1, c, h => by
    have := outE_take e (j + 1) k c (by simpa using h)
    simp only [List.take_succ_cons, outE, this]
    rw [show j + 1 + k = j + (k + 1) by omega]
    simp
theorem relC_len (c : UInt8) : (relC c).length ≤ 2 := by unfold relC; split <;> simp
theorem rel_len : ∀ (s : Txt), (rel s).length ≤ 2 * s.length
  | [] => by simp [rel]
  | c :: s => by
    have h1 := rel_len s
    have h2 := relC_len c
    simp only [rel, List.flatMap_cons, List.length_append, List.length_cons] at *
    omega
theorem rel_take_le (s : Txt) (k : Nat) : (rel (s.take k)).length ≤ 2 * s.length := by
  have := rel_len (s.take k)
  have h2 : (s.take k).length ≤ s.length := by simp; omega
  omega
theorem byteRows_app (l m : List UInt8) : byteRows (l ++ m) = byteRows l ++ byteRows m := by simp [byteRows]
theorem byteRows_len (l : List UInt8) : (byteRows l).length = l.length := by simp [byteRows]
theorem flat_len {α : Type} (f : α → Txt) : ∀ (l : List α), (l.flatMap f).length = (l.map fun x => (f x).length).sum
  | [] => rfl
  | x :: l => by simp only [List.flatMap_cons, List.length_append, List.map_cons, List.sum_cons, flat_len f l]
theorem outE_len : ∀ (e : List Txt) (j : Nat), (outE j e).length ≤ 2 * szE e
  | [], j => by simp [outE]
  | c :: e, j => by
    have h1 := outE_len e (j + 1)
    have h2 := rel_len c
    simp only [outE, szE, List.length_append, List.length_cons, List.map_cons, List.sum_cons] at *
    omega
theorem sum_le {α : Type} {f g : α → Nat} (h : ∀ x, f x ≤ g x) : ∀ (l : List α), (l.map f).sum ≤ (l.map g).sum
  | [] => Nat.le_refl _
  | x :: l => by
    have := sum_le h l
    have := h x
    simp only [List.map_cons, List.sum_cons]
    omega
theorem sum_two {α : Type} (g : α → Nat) : ∀ (l : List α), (l.map fun x => 2 * g x).sum = 2 * (l.map g).sum
  | [] => rfl
  | x :: l => by
    have := sum_two g l
    simp only [List.map_cons, List.sum_cons]
    omega
theorem outEs_len (l : List (List Txt)) : (l.flatMap (outE 0)).length ≤ 2 * (l.map szE).sum := by
  rw [flat_len, ← sum_two]
  exact sum_le (fun e => outE_len e 0) l
theorem outX_len (x : Ln) : (outX x).length ≤ 2 * szX x + 1 := by
  have := outEs_len x.els
  simp only [outX, szX, List.length_append, List.length_cons, List.length_nil]
  omega
theorem sum_take_mono {α : Type} (f : α → Nat) (l : List α) (k : Nat) : ((l.take k).map f).sum ≤ (l.map f).sum := by
  have h2 : (l.map f).sum = ((l.take k).map f).sum + ((l.drop k).map f).sum := by rw [← List.sum_append_nat, ← List.map_append, List.take_append_drop]
  omega
theorem fitE_of {e : List Txt} (h : szE e ≤ 1048576) : FitE e := by
  unfold szE at h
  refine ⟨by omega, fun c hc => ?_⟩
  have := sum_mem_le List.length hc
  omega
theorem fitX_of {x : Ln} (h : szX x ≤ 1048576) : FitX x := by
  unfold szX at h
  refine ⟨by omega, by omega, fun e he => fitE_of ?_⟩
  have := sum_mem_le szE he
  omega
theorem fitL_of {l : List Ln} (h : szL l ≤ 1048576) : FitL l := by
  unfold szL at h
  refine ⟨by omega, fun x hx => fitX_of ?_⟩
  have := sum_mem_le szX hx
  omega
end Go.Proofs.YtlnpfnoemhjheaaGreatDoor.Ed
/- Print. -/
namespace Go.Proofs.YtlnpfnoemhjheaaGreatDoor.Ed
open Go Go.AL
set_option linter.unusedSectionVars false
variable [Go.AL.Mode] [Go.AL.LooseM]
set_option linter.unusedSimpArgs false
set_option linter.unusedVariables false
theorem outL_len (l : List Ln) : (outL l).length ≤ 2 * szL l := by
  have h1 : (outL l).length ≤ (l.map fun x => 2 * szX x + 1).sum := by
    rw [outL, flat_len]
    exact sum_le outX_len l
  have h2 : ∀ l : List Ln, (l.map fun x => 2 * szX x + 1).sum = 2 * (l.map szX).sum + l.length := by
    intro l
    induction l with
    | nil => rfl
    | cons x l ih => simp only [List.map_cons, List.sum_cons, ih, List.length_cons]; omega
  rw [h2] at h1
  unfold szL
  omega
theorem szL_take (l : List Ln) (k : Nat) : szL (l.take k) ≤ szL l := by
  have h1 := sum_take_mono szX l k
  have h2 : (l.take k).length ≤ l.length := by simp; omega
  unfold szL
  omega
def printV (l : List Ln) : V := if rightL l then .tup [.str (outL l), .int .i64 0] else .tup [.str [], .int .i64 3]
theorem Bld.push {S T : Store} {p b : V} {bs : Txt} (h : Bld S T p b bs) (o : AL.Obj) : Bld S (T ++ [o]) p b bs := by
  rcases h with h | ⟨h1, j, v, h2, h3⟩
  · exact .inl h
  · exact .inr ⟨h1, j, v, h2, by rw [ob_low (obj_lt h3)]; exact h3⟩
theorem print_A (l : List Ln) (S : Store) (hsz : szL l ≤ 8000) : CallA Tryz.prog 25 [lnV l] S fun r S' => r = printV l ∧ S' = S := by
  refine CallA.back Tryz.func25 c8010 (Nat.le_of_ble_eq_true rfl) fun σ hσ hn => ?_
  have hfit : FitL l := fitL_of (by omega)
  simp (disch := first | omega | (simp only [lenT]; omega)) only [a8010, ↓evPre, ↓evPreW, evPost, evPostW, evR, evU, seval]
  refine (right_A l S hfit).then ?_
  cases hr : rightL l
  · simp (disch := first | omega | (simp only [lenT]; omega)) only [printV, hr, Bool.not_false, Bool.false_eq_true, ↓evPre, ↓evPreW, evPost, evPostW, evR, evU, seval]
    exact ⟨_, ⟨[], (List.append_nil S).symm⟩, .imm rfl, rfl⟩
  · simp (disch := first | omega | (simp only [lenT]; omega)) only [printV, hr, Bool.not_true, lnV, ↓evPre, ↓evPreW, evPost, evPostW, evR, evU, seval]
    have step : ∀ x ∈ l, writable x = true := fun x hx => by
      simp only [rightL, Bool.not_eq_true', List.any_eq_false] at hr
      simpa using hr x hx
    refine loopA (ι := Nat × Store × V × V) (fun k => [(4, .ptr S.length 0 0 0), (15, .sl 2 (l.map lnR)), (16, .int .i64 l.length), (17, .int .i64 k.1)]) (fun k => S ++ ⟨0, some (.arr 113 2 [[k.2.2.1, k.2.2.2]])⟩ :: k.2.1)
      (fun k => k.1 ≤ l.length ∧ Bld S k.2.1 k.2.2.1 k.2.2.2 (outL (l.take k.1)) ∧ (outL (l.take k.1) ≠ [] ∨ k.2.2.1 = .nilPtr)) (fun k => l.length - k.1) (0, [], .nilPtr, .nilSl) ⟨Nat.zero_le _, .inl ⟨rfl, rfl, by simp [outL]⟩, .inr rfl⟩ ?_ rfl ?_
    · simp only [↓evPre, ↓evPreW, evPost, evPostW, evR, evU, seval]
    · rintro ⟨k, T, p, b⟩ ⟨hk, hbl, hne⟩
      simp only at hk hbl hne ⊢
      obtain ⟨hl1, hl2⟩ := hfit
      have hbn : (outL (l.take k)).length ≤ 16000 := by
        have h1 := outL_len (l.take k)
        have h2 := szL_take l k
        omega
      cases hx : l[k]? with
      | none =>
        have hkl : k = l.length := by have := List.getElem?_eq_none_iff.1 hx; omega
        have hlt : ¬ ((k : Int) < l.length) := by omega
        rw [hkl, List.take_length] at hbl hne hbn
        have hno : ¬ (65536 : Int) < ((outL l).length : Int) := by omega
        simp (disch := first | omega | (simp only [lenT]; omega)) only [hlt, wrap_i64, ↓evPre, ↓evPreW, evPost, evPostW, evR, evU, seval]
        refine (len_A hbl).then ?_
        simp (disch := first | omega | (simp only [lenT]; omega)) only [hno, decide_false, ↓evPre, ↓evPreW, evPost, evPostW, evR, evU, seval]
        refine (string_A hbl hne).mono ?_
        rintro _ _ ⟨rfl, L, rfl⟩
        simp (disch := first | omega | (simp only [lenT]; omega)) only [↓evPre, ↓evPreW, evPost, evPostW, evR, evU, seval]
        exact ⟨_, ⟨_, rfl⟩, .imm rfl, rfl⟩
      | some x =>
        have hlt : ((k : Int) < l.length) := by have := (List.getElem?_eq_some_iff.1 hx).1; omega
        simp (disch := first | omega | (simp only [lenT]; omega)) only [hlt, hx, lnR, elV, wrap_i64, ob_app, ob_app0, ob_cons, ob_head, se_app, se_app0, se_cons, se_head, ap_app, le_app, List.cons_append, List.nil_append, List.length_cons, List.length_nil, ↓evPre, ↓evPreW, evPost, evPostW, evR, evU, seval]
        have hle := sum_take_le szX hx
        have hL : szL l = l.length + (l.map szX).sum := rfl
        have hX : szX x = x.tag.length + x.els.length + (x.els.map szE).sum := rfl
        obtain ⟨hx1, hx2, hx3⟩ := hl2 x (List.mem_of_getElem? hx)
        refine (writeS_A (hbl.push _) x.tag (by omega)).mono ?_
        rintro _ _ ⟨rfl, T1, p1, b1, rfl, hb1, hk1⟩
        have hxb := hk1 T.length 0 58 2 _ (by decide) obj_push
        simp (disch := first | omega | (simp only [lenT]; omega)) only [hlt, hxb, wrap_i64, ob_app, ob_app0, ob_cons, ob_head, ↓evPre, ↓evPreW, evPost, evPostW, evR, evU, seval]
        refine loopA (ι := Nat × Store × V × V) (fun i => [(4, .ptr S.length 0 0 0), (15, .sl 2 (l.map lnR)), (16, .int .i64 l.length), (17, .int .i64 k), (25, .sl 1 (x.els.map elR)), (26, .int .i64 x.els.length), (27, .int .i64 i.1)])
          (fun i => S ++ ⟨0, some (.arr 113 2 [[i.2.2.1, i.2.2.2]])⟩ :: i.2.1) (fun i => i.1 ≤ x.els.length ∧ Bld S i.2.1 i.2.2.1 i.2.2.2 (outL (l.take k) ++ x.tag ++ (x.els.take i.1).flatMap (outE 0))) (fun i => x.els.length - i.1) (0, T1, p1, b1) ⟨Nat.zero_le _, by simpa using hb1⟩ ?_ rfl ?_
        · simp only [↓evPre, ↓evPreW, evPost, evPostW, evR, evU, seval]
        · rintro ⟨i, T2, p2, b2⟩ ⟨hi, hb2⟩
          simp only at hi hb2 ⊢
          have h4 := outEs_len (x.els.take i)
          have h5 := sum_take_mono szE x.els i
          have hlen2 : (outL (l.take k) ++ x.tag ++ (x.els.take i).flatMap (outE 0)).length ≤ 50000 := by
            simp only [List.length_append]
            omega
          cases he : x.els[i]? with
          | none =>
            have hkl : i = x.els.length := by have := List.getElem?_eq_none_iff.1 he; omega
            have hlt2 : ¬ ((i : Int) < x.els.length) := by omega
            rw [hkl, List.take_length] at hb2 hlen2
            simp (disch := first | omega | (simp only [lenT]; omega)) only [hlt2, wrap_i64, ↓evPre, ↓evPreW, evPost, evPostW, evR, evU, seval]
            refine (writeB_A hb2 39 (by omega)).mono ?_
            rintro _ _ ⟨rfl, T3, p3, b3, rfl, hb3, hk3⟩
            have hnext : outL (l.take k) ++ x.tag ++ x.els.flatMap (outE 0) ++ [39] = outL (l.take (k + 1)) := by
              rw [outL, outL, flat_take hx]
              simp [outX]
            rw [hnext] at hb3
            simp (disch := first | omega | (simp only [lenT]; omega)) only [hlt2, wrap_i64, ↓evPre, ↓evPreW, evPost, evPostW, evR, evU, seval]
            refine ⟨(k + 1, T3, p3, b3), ⟨by simp only; omega, hb3, .inl ?_⟩, by simp only; omega, by simp only; omega, rfl⟩
            simp only
            rw [← hnext]
            simp
          | some e =>
            have hlt2 : ((i : Int) < x.els.length) := by have := (List.getElem?_eq_some_iff.1 he).1; omega
            have hle2 := sum_take_le szE he
            have hE : szE e = e.length + (e.map List.length).sum := rfl
            obtain ⟨he1, he2⟩ := hx3 e (List.mem_of_getElem? he)
            simp (disch := first | omega | (simp only [lenT]; omega)) only [hlt2, he, elR, cmV, wrap_i64, ↓evPre, ↓evPreW, evPost, evPostW, evR, evU, seval]
            refine loopA (ι := Nat × Store × V × V) (fun m => [(4, .ptr S.length 0 0 0), (15, .sl 2 (l.map lnR)), (16, .int .i64 l.length), (17, .int .i64 k), (25, .sl 1 (x.els.map elR)), (26, .int .i64 x.els.length), (27, .int .i64 i), (31, .sl 1 (e.map cmR)), (32, .int .i64 e.length), (33, .int .i64 m.1)])
              (fun m => S ++ ⟨0, some (.arr 113 2 [[m.2.2.1, m.2.2.2]])⟩ :: m.2.1) (fun m => m.1 ≤ e.length ∧ Bld S m.2.1 m.2.2.1 m.2.2.2 (outL (l.take k) ++ x.tag ++ (x.els.take i).flatMap (outE 0) ++ outE 0 (e.take m.1))) (fun m => e.length - m.1) (0, T2, p2, b2) ⟨Nat.zero_le _, by simpa [outE] using hb2⟩ ?_ rfl ?_
            · simp only [↓evPre, ↓evPreW, evPost, evPostW, evR, evU, seval]
            · rintro ⟨m, T3, p3, b3⟩ ⟨hm, hb3⟩
              simp only at hm hb3 ⊢
              have h6 := outE_len (e.take m) 0
              have h7 : szE (e.take m) ≤ szE e := by
                have := sum_take_mono List.length e m
                have h8 : (e.take m).length ≤ e.length := by simp; omega
                unfold szE
                omega
              have hlen3 : (outL (l.take k) ++ x.tag ++ (x.els.take i).flatMap (outE 0) ++ outE 0 (e.take m)).length ≤ 100000 := by
                rw [List.length_append]
                omega
              generalize hpre : outL (l.take k) ++ x.tag ++ (x.els.take i).flatMap (outE 0) = pre at hb2 hlen2 hb3 hlen3 ⊢
              cases hc : e[m]? with
              | none =>
                have hkl : m = e.length := by have := List.getElem?_eq_none_iff.1 hc; omega
                have hlt3 : ¬ ((m : Int) < e.length) := by omega
                rw [hkl, List.take_length] at hb3
                simp (disch := first | omega | (simp only [lenT]; omega)) only [hlt3, wrap_i64, ↓evPre, ↓evPreW, evPost, evPostW, evR, evU, seval]
                exact ⟨(i + 1, T3, p3, b3), ⟨by simp only; omega, by simp only; rw [flat_take he, ← List.append_assoc, hpre]; exact hb3⟩, by simp only; omega, by simp only; omega, rfl⟩
              | some c =>
                have hlt3 : ((m : Int) < e.length) := by have := (List.getElem?_eq_some_iff.1 hc).1; omega
                have hcm := sum_mem_le List.length (List.mem_of_getElem? hc)
                have hsep : ([43, 58] : List UInt8)[(min (m : Int) 1).toNat]? = some (sepC m) := by
                  by_cases h0 : m = 0
                  · subst h0; rfl
                  · have h1 : (min (m : Int) 1).toNat = 1 := by omega
                    rw [h1]
                    simp only [sepC, h0, if_false]
                    rfl
                simp (disch := first | omega | (simp only [lenT]; omega)) only [hlt3, hc, cmR, wrap_i64, hsep, ↓evPre, ↓evPreW, evPost, evPostW, evR, evU, seval]
                refine (writeB_A hb3 (sepC m) (by omega)).mono ?_
                rintro _ _ ⟨rfl, T4, p4, b4, rfl, hb4, hk4⟩
                simp (disch := first | omega | (simp only [lenT]; omega)) only [hlt3, wrap_i64, ↓evPre, ↓evPreW, evPost, evPostW, evR, evU, seval]
                refine loopA (ι := Nat × Store × V × V) (fun q => [(4, .ptr S.length 0 0 0), (15, .sl 2 (l.map lnR)), (16, .int .i64 l.length), (17, .int .i64 k), (25, .sl 1 (x.els.map elR)), (26, .int .i64 x.els.length), (27, .int .i64 i), (31, .sl 1 (e.map cmR)), (32, .int .i64 e.length), (33, .int .i64 m), (10, .str c), (43, .int .i64 c.length), (44, .int .i64 q.1)])
                  (fun q => S ++ ⟨0, some (.arr 113 2 [[q.2.2.1, q.2.2.2]])⟩ :: q.2.1) (fun q => q.1 ≤ c.length ∧ Bld S q.2.1 q.2.2.1 q.2.2.2 (pre ++ outE 0 (e.take m) ++ [sepC m] ++ rel (c.take q.1))) (fun q => c.length - q.1) (0, T4, p4, b4) ⟨Nat.zero_le _, by simpa [rel] using hb4⟩ ?_ rfl ?_
                · simp only [↓evPre, ↓evPreW, evPost, evPostW, evR, evU, seval]
                · rintro ⟨q, T5, p5, b5⟩ ⟨hq, hb5⟩
                  simp only at hq hb5 ⊢
                  have h9 := rel_take_le c q
                  have hlen5 : (pre ++ outE 0 (e.take m) ++ [sepC m] ++ rel (c.take q)).length ≤ 200000 := by
                    rw [List.length_append, List.length_append]
                    simp only [List.length_cons, List.length_nil]
                    omega
                  cases hd : c[q]? with
                  | none =>
                    have hkl : q = c.length := by have := List.getElem?_eq_none_iff.1 hd; omega
                    have hlt4 : ¬ ((q : Int) < c.length) := by omega
                    rw [hkl, List.take_length] at hb5
                    simp (disch := first | omega | (simp only [lenT]; omega)) only [hlt4, wrap_i64, ↓evPre, ↓evPreW, evPost, evPostW, evR, evU, seval]
                    refine ⟨(m + 1, T5, p5, b5), ⟨by simp only; omega, ?_⟩, by simp only; omega, by simp only; omega, rfl⟩
                    simp only
                    rw [outE_take e 0 m c hc, Nat.zero_add]
                    simpa using hb5
                  | some d =>
                    have hlt4 : ((q : Int) < c.length) := by have := (List.getElem?_eq_some_iff.1 hd).1; omega
                    generalize hpre5 : pre ++ outE 0 (e.take m) ++ [sepC m] = pre5 at hb5 hlen5 ⊢
                    have hnext : pre5 ++ rel (c.take q) ++ relC d = pre5 ++ rel (c.take (q + 1)) := by rw [rel, rel, flat_take hd, List.append_assoc]
                    simp (disch := first | omega | (simp only [lenT]; omega)) only [hlt4, hd, wrap_i64, ↓evPre, ↓evPreW, evPost, evPostW, evR, evU, seval]
                    refine (index_A d _).then ?_
                    by_cases hsp : 0 ≤ Lib.indexByte sp d
                    · have hr : relC d = [63] ++ [d] := by simp [relC, (spec_pos d).1 hsp]
                      simp (disch := first | omega | (simp only [lenT]; omega)) only [hsp, decide_true, hd, wrap_i64, ↓evPre, ↓evPreW, evPost, evPostW, evR, evU, seval]
                      refine (writeB_A hb5 63 (by omega)).mono ?_
                      rintro _ _ ⟨rfl, T6, p6, b6, rfl, hb6, hk6⟩
                      simp (disch := first | omega | (simp only [lenT]; omega)) only [hd, wrap_i64, ↓evPre, ↓evPreW, evPost, evPostW, evR, evU, seval]
                      refine (writeB_A hb6 d (by rw [List.length_append]; simp only [List.length_cons, List.length_nil]; omega)).mono ?_
                      rintro _ _ ⟨rfl, T7, p7, b7, rfl, hb7, hk7⟩
                      simp (disch := first | omega | (simp only [lenT]; omega)) only [hd, wrap_i64, ↓evPre, ↓evPreW, evPost, evPostW, evR, evU, seval]
                      refine ⟨(q + 1, T7, p7, b7), ⟨by simp only; omega, ?_⟩, by simp only; omega, by simp only; omega, rfl⟩
                      simp only
                      rw [← hnext, hr]
                      simpa using hb7
                    · have hr : relC d = [d] := by
                        have : specC d = false := by rw [← Bool.not_eq_true]; exact fun h => hsp ((spec_pos d).2 h)
                        simp [relC, this]
                      simp (disch := first | omega | (simp only [lenT]; omega)) only [hsp, decide_false, hd, wrap_i64, ↓evPre, ↓evPreW, evPost, evPostW, evR, evU, seval]
                      refine (writeB_A hb5 d (by omega)).mono ?_
                      rintro _ _ ⟨rfl, T7, p7, b7, rfl, hb7, hk7⟩
                      simp (disch := first | omega | (simp only [lenT]; omega)) only [hd, wrap_i64, ↓evPre, ↓evPreW, evPost, evPostW, evR, evU, seval]
                      refine ⟨(q + 1, T7, p7, b7), ⟨by simp only; omega, ?_⟩, by simp only; omega, by simp only; omega, rfl⟩
                      simp only
                      rw [← hnext, hr]
                      exact hb7
end Go.Proofs.YtlnpfnoemhjheaaGreatDoor.Ed
