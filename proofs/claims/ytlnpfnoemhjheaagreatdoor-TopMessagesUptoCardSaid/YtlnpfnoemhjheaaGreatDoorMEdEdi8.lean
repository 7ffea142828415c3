/- What is read, byte by byte. -/
import Derived.Test.YtlnpfnoemhjheaaGreatDoorMEdEdi6
namespace Go.Proofs.YtlnpfnoemhjheaaGreatDoor.Ed
open Go Go.AL
set_option linter.unusedSectionVars false
variable [Go.AL.Mode] [Go.AL.LooseM]
set_option linter.unusedSimpArgs false
set_option linter.unusedVariables false
def partV : Option (Bool × UInt8) → V
  | none => .nilIface
  | some (true, c) => .iface 153 (.int .u8 c.toNat)
  | some (false, c) => .iface 151 (.int .u8 c.toNat)
def nextF (c : UInt8) (r : Option UInt8) : Option (Bool × UInt8) × Nat :=
  if c.toNat = 63 then
    match r with
    | none => (none, 1)
    | some d => if specC d then (some (false, d), 2) else (none, 1)
  else if oddC c then (none, 0)
  else if specC c then (some (true, c), 1)
  else (some (false, c), 1)
theorem next_A (s : Txt) (k : Nat) (c : UInt8) (S : Store) (hs : s.length ≤ 1048576) (hc : s[k]? = some c) : CallA Tryz.prog 84 [.str s, .int .i64 k] S fun r S' => r = .tup [partV (nextF c s[k + 1]?).1, .int .i64 (nextF c s[k + 1]?).2] ∧ S' = S := by
  refine CallA.keep Tryz.func84 c8047 (Nat.le_of_ble_eq_true rfl) fun σ hσ => ?_
  have hlt := (List.getElem?_eq_some_iff.1 hc).1
  by_cases h63 : (c.toNat : Int) = 63
  · have h63' : c.toNat = 63 := by omega
    cases hd : s[k + 1]? with
    | none =>
      have hkl : (k : Int) + 1 = s.length := by have := List.getElem?_eq_none_iff.1 hd; omega
      have hn : nextF c none = (none, 1) := by simp only [nextF, h63', if_true]
      simp (disch := first | omega | (simp only [lenT]; omega)) only [a8047, hc, h63, hkl, wrap_i64, decide_true, hn, partV, ↓evPre, ↓evPreW, evPost, evPostW, evR, evU, seval]
    | some d =>
      have hlt2 := (List.getElem?_eq_some_iff.1 hd).1
      have hkl : ¬ (k : Int) + 1 = s.length := by omega
      have e1 : ((k : Int) + 1).toNat = k + 1 := by omega
      simp (disch := first | omega | (simp only [lenT]; omega)) only [a8047, hc, hd, e1, h63, hkl, wrap_i64, decide_true, decide_false, ↓evPre, ↓evPreW, evPost, evPostW, evR, evU, seval]
      refine (index_A d S).then ?_
      by_cases hsp : 0 ≤ Lib.indexByte sp d
      · have hs2 : specC d = true := (spec_pos d).1 hsp
        have hn : nextF c (some d) = (some (false, d), 2) := by simp only [nextF, h63', if_true, hs2]
        have hlt0 : ¬ Lib.indexByte sp d < 0 := by omega
        simp (disch := first | omega | (simp only [lenT]; omega)) only [hc, hd, e1, h63, hkl, hlt0, wrap_i64, decide_true, decide_false, hn, partV, ↓evPre, ↓evPreW, evPost, evPostW, evR, evU, seval]
        try rfl
      · have hs2 : specC d = false := by rw [← Bool.not_eq_true]; exact fun h => hsp ((spec_pos d).2 h)
        have hn : nextF c (some d) = (none, 1) := by simp only [nextF, h63', if_true, hs2]; rfl
        have hlt0 : Lib.indexByte sp d < 0 := by omega
        simp (disch := first | omega | (simp only [lenT]; omega)) only [hc, hd, e1, h63, hkl, hlt0, wrap_i64, decide_true, decide_false, hn, partV, ↓evPre, ↓evPreW, evPost, evPostW, evR, evU, seval]
  · have h63' : ¬ c.toNat = 63 := by omega
    by_cases h1 : (c.toNat : Int) < 32
    · have ho : oddC c = true := by simp [oddC]; omega
      have hn : ∀ r, nextF c r = (none, 0) := fun r => by simp only [nextF, h63', if_false, ho, if_true]
      simp (disch := first | omega | (simp only [lenT]; omega)) only [a8047, hc, h63, h1, wrap_i64, decide_true, decide_false, hn, partV, ↓evPre, ↓evPreW, evPost, evPostW, evR, evU, seval]
    · by_cases h2 : 126 < (c.toNat : Int)
      · have ho : oddC c = true := by simp [oddC]; omega
        have hn : ∀ r, nextF c r = (none, 0) := fun r => by simp only [nextF, h63', if_false, ho, if_true]
        simp (disch := first | omega | (simp only [lenT]; omega)) only [a8047, hc, h63, h1, h2, wrap_i64, decide_true, decide_false, hn, partV, ↓evPre, ↓evPreW, evPost, evPostW, evR, evU, seval]
      · have ho : oddC c = false := by simp [oddC]; omega
        simp (disch := first | omega | (simp only [lenT]; omega)) only [a8047, hc, h63, h1, h2, wrap_i64, decide_true, decide_false, ↓evPre, ↓evPreW, evPost, evPostW, evR, evU, seval]
        refine (index_A c S).then ?_
        by_cases hsp : 0 ≤ Lib.indexByte sp c
        · have hs2 : specC c = true := (spec_pos c).1 hsp
          have hn : ∀ r, nextF c r = (some (true, c), 1) := fun r => by simp only [nextF, h63', if_false, ho, hs2, if_true]; rfl
          simp (disch := first | omega | (simp only [lenT]; omega)) only [hc, hsp, wrap_i64, decide_true, decide_false, hn, partV, ↓evPre, ↓evPreW, evPost, evPostW, evR, evU, seval]
        · have hs2 : specC c = false := by rw [← Bool.not_eq_true]; exact fun h => hsp ((spec_pos c).2 h)
          have hn : ∀ r, nextF c r = (some (false, c), 1) := fun r => by simp only [nextF, h63', if_false, ho, hs2]; rfl
          simp (disch := first | omega | (simp only [lenT]; omega)) only [hc, hsp, wrap_i64, decide_true, decide_false, hn, partV, ↓evPre, ↓evPreW, evPost, evPostW, evR, evU, seval]
def mach : List (List Txt) → Option (List Txt × Txt) → Txt → Option (List (List Txt)) × Nat
  | _, _, [] => (none, 0)
  | els, cur, c :: r =>
    if c.toNat = 63 then
      match r with
      | [] => (none, if cur.isSome then 1 else 0)
      | d :: r' => match cur with
        | none => (none, 0)
        | some (comps, text) => if specC d then ((mach els (some (comps, text ++ [d])) r').1, (mach els (some (comps, text ++ [d])) r').2 + 2) else (none, 1)
    else if oddC c then (none, 0)
    else if specC c then
      match cur with
      | none => if c.toNat = 58 then (none, 0) else if c.toNat = 43 then ((mach els (some ([], [])) r).1, (mach els (some ([], [])) r).2 + 1) else (some els, 1)
      | some (comps, text) =>
        if c.toNat = 58 then ((mach els (some (comps ++ [text], [])) r).1, (mach els (some (comps ++ [text], [])) r).2 + 1)
        else if c.toNat = 43 then ((mach (els ++ [comps ++ [text]]) (some ([], [])) r).1, (mach (els ++ [comps ++ [text]]) (some ([], [])) r).2 + 1)
        else (some (els ++ [comps ++ [text]]), 1)
    else
      match cur with
      | none => (none, 0)
      | some (comps, text) => ((mach els (some (comps, text ++ [c])) r).1, (mach els (some (comps, text ++ [c])) r).2 + 1)
termination_by _ _ l => l.length
def tagN : Nat → Txt → Nat
  | 0, _ => 0
  | _, [] => 0
  | n + 1, c :: r => if upC c then tagN n r + 1 else 0
def parseF : Nat → List Ln → Txt → Nat → Option (List Ln) × Nat
  | 0, ls, _, at' => (some ls, at')
  | _, ls, [], at' => (some ls, at')
  | n + 1, ls, l, at' =>
    if tagN 3 l < 3 then (none, at' + tagN 3 l) else
    match mach [] none (l.drop 3) with
    | (none, m) => (none, at' + 3 + m)
    | (some els, m) => parseF n (ls ++ [⟨l.take 3, els⟩]) (l.drop (3 + m)) (at' + 3 + m)
end Go.Proofs.YtlnpfnoemhjheaaGreatDoor.Ed
/- The reader: a tag. -/
namespace Go.Proofs.YtlnpfnoemhjheaaGreatDoor.Ed
open Go Go.AL
set_option linter.unusedSectionVars false
variable [Go.AL.Mode] [Go.AL.LooseM]
set_option linter.unusedSimpArgs false
set_option linter.unusedVariables false
theorem tagN_nil : ∀ n, tagN n [] = 0
  | 0 => rfl
  | _ + 1 => rfl
theorem drop_cons {α : Type} {s : List α} {k : Nat} {c : α} (h : s[k]? = some c) : s.drop k = c :: s.drop (k + 1) := by
  obtain ⟨hlt, rfl⟩ := List.getElem?_eq_some_iff.1 h
  exact List.drop_eq_getElem_cons hlt
theorem tagN_le : ∀ (n : Nat) (l : Txt), tagN n l ≤ n
  | 0, l => by cases l <;> simp [tagN]
  | n + 1, [] => by simp [tagN]
  | n + 1, c :: r => by
    have := tagN_le n r
    simp only [tagN]
    split <;> omega
def Outs (S T : Store) (o : V) (rows : List (List V)) : Prop := (o = .nilSl ∧ T = [] ∧ rows = []) ∨ ∃ v, o = .msl (S.length + 1) v 0 rows.length ∧ T = [⟨v, some (.arr 58 2 rows)⟩]
set_option maxRecDepth 20000 in
theorem tag_A (s : Txt) (k : Nat) (S T : Store) (o : V) (rows : List (List V)) (hs : s.length ≤ 65536) (hk : k ≤ s.length) (hr : rows.length ≤ 65536) (ho : Outs S T o rows) :
    CallA Tryz.prog 60 [.ptr S.length 0 0 0] (S ++ ⟨0, some (.arr 126 3 [[.str s, .int .i64 k, o]])⟩ :: T) fun r S' =>
      if tagN 3 (s.drop k) = 3 then r = .bool true ∧ ∃ v, S' = S ++ [⟨0, some (.arr 126 3 [[.str s, .int .i64 (k + 3 : Nat), .msl (S.length + 1) v 0 (rows.length + 1)]])⟩, ⟨v, some (.arr 58 2 (rows ++ [[.str ((s.drop k).take 3), .nilSl]]))⟩]
      else r = .bool false ∧ S' = S ++ ⟨0, some (.arr 126 3 [[.str s, .int .i64 (k + tagN 3 (s.drop k) : Nat), o]])⟩ :: T := by
  refine CallA.keep Tryz.func60 c8037 (Nat.le_of_ble_eq_true rfl) fun σ hσ => ?_
  simp (disch := first | omega | (simp only [lenT]; omega)) only [a8037, ob_app, ob_app0, ob_cons, ob_head, se_app, se_app0, se_cons, se_head, ↓evPre, ↓evPreW, evPost, evPostW, evR, evU, seval]
  refine loopA (ι := Nat) (fun i => [(0, .ptr S.length 0 0 0), (3, .int .i64 k)]) (fun i => S ++ ⟨0, some (.arr 126 3 [[.str s, .int .i64 (k + i : Nat), o]])⟩ :: T) (fun i => i ≤ 3 ∧ k + i ≤ s.length ∧ tagN 3 (s.drop k) = i + tagN (3 - i) (s.drop (k + i))) (fun i => 3 - i) 0 ⟨by omega, by omega, by simp⟩ ?_ rfl ?_
  · simp only [↓evPre, ↓evPreW, evPost, evPostW, evR, evU, seval]
  · rintro i ⟨hi, hki, ht⟩
    by_cases hlt : ((k + i : Nat) : Int) < (k : Int) + 3
    · cases hc : s[k + i]? with
      | none =>
        have hkl : k + i = s.length := by have := List.getElem?_eq_none_iff.1 hc; omega
        have hkl' : ((k + i : Nat) : Int) = (s.length : Int) := by omega
        rw [show s.drop (k + i) = [] from List.drop_eq_nil_of_le (by omega), tagN_nil] at ht
        have hi3 : ¬ i = 3 := by omega
        have hlt' : (s.length : Int) < (k : Int) + 3 := by omega
        simp (disch := first | omega | (simp only [lenT]; omega)) only [hlt', hkl', hi3, ht, if_false, Nat.add_zero, decide_true, wrap_i64, ob_app, ob_app0, ob_cons, ob_head, se_app, se_app0, se_cons, se_head, ↓evPre, ↓evPreW, evPost, evPostW, evR, evU, seval]
      | some c =>
        have hlt2 := (List.getElem?_eq_some_iff.1 hc).1
        have hne : ¬ ((k + i : Nat) : Int) = (s.length : Int) := by omega
        rw [drop_cons hc, show 3 - i = (3 - (i + 1)) + 1 by omega] at ht
        have e1 : (((k + i : Nat) : Int)).toNat = k + i := by omega
        have h0 : 0 ≤ ((k + i : Nat) : Int) := by omega
        by_cases h1 : (c.toNat : Int) < 65
        · have hu : upC c = false := by simp [upC]; omega
          have hz : tagN 3 (s.drop k) = i := by simpa [tagN, hu] using ht
          have hi3 : ¬ i = 3 := by omega
          simp (disch := first | omega | (simp only [lenT]; omega)) only [hlt, hne, e1, h0, hc, h1, hi3, hz, if_false, decide_true, decide_false, wrap_i64, ob_app, ob_app0, ob_cons, ob_head, se_app, se_app0, se_cons, se_head, ↓evPre, ↓evPreW, evPost, evPostW, evR, evU, seval]
        · by_cases h2 : 90 < (c.toNat : Int)
          · have hu : upC c = false := by simp [upC]; omega
            have hz : tagN 3 (s.drop k) = i := by simpa [tagN, hu] using ht
            have hi3 : ¬ i = 3 := by omega
            simp (disch := first | omega | (simp only [lenT]; omega)) only [hlt, hne, e1, h0, hc, h1, h2, hi3, hz, if_false, decide_true, decide_false, wrap_i64, ob_app, ob_app0, ob_cons, ob_head, se_app, se_app0, se_cons, se_head, ↓evPre, ↓evPreW, evPost, evPostW, evR, evU, seval]
          · have hu : upC c = true := by simp [upC]; omega
            simp only [tagN, hu, if_true] at ht
            simp (disch := first | omega | (simp only [lenT]; omega)) only [hlt, hne, e1, h0, hc, h1, h2, decide_true, decide_false, wrap_i64, ob_app, ob_app0, ob_cons, ob_head, se_app, se_app0, se_cons, se_head, ↓evPre, ↓evPreW, evPost, evPostW, evR, evU, seval]
            refine ⟨i + 1, ⟨by omega, by omega, ?_⟩, by omega, rfl⟩
            rw [ht, Nat.add_assoc k i 1]
            omega
    · have hi3 : i = 3 := by omega
      subst hi3
      have ht3 : tagN 3 (s.drop k) = 3 := by rw [ht]; simp [tagN]
      have hb1 : (k : Int) ≤ ((k + 3 : Nat) : Int) := by omega
      have hb2 : ((k + 3 : Nat) : Int) ≤ (s.length : Int) := by omega
      have e3 : k + 3 - k = 3 := by omega
      rcases ho with ⟨rfl, rfl, rfl⟩ | ⟨v, rfl, rfl⟩
      · simp (disch := first | omega | (simp only [lenT]; omega)) only [hlt, ht3, hb1, hb2, e3, roomA, if_true, wrap_i64, ob_app, ob_app0, ob_cons, ob_head, se_app, se_app0, se_cons, se_head, ap_app, le_app, List.cons_append, List.nil_append, List.length_cons, List.length_nil, ↓evPre, ↓evPreW, evPost, evPostW, evR, evU, seval]
        exact ⟨_, rfl⟩
      · simp (disch := first | omega | (simp only [lenT]; omega)) only [hlt, ht3, hb1, hb2, e3, roomA, if_true, wrap_i64, ob_app, ob_app0, ob_cons, ob_head, se_app, se_app0, se_cons, se_head, ap_app, le_app, List.cons_append, List.nil_append, List.length_cons, List.length_nil, ↓evPre, ↓evPreW, evPost, evPostW, evR, evU, seval]
        exact ⟨by omega, _, rfl⟩
end Go.Proofs.YtlnpfnoemhjheaaGreatDoor.Ed
/- The reader: the rest of a line. -/
namespace Go.Proofs.YtlnpfnoemhjheaaGreatDoor.Ed
open Go Go.AL
set_option linter.unusedSectionVars false
variable [Go.AL.Mode] [Go.AL.LooseM]
set_option linter.unusedSimpArgs false
set_option linter.unusedVariables false
def Pres (t : TypeId) (T T' : Store) : Prop := ∀ k w sz rows, T.obj? k w = some (t, sz, rows) → T'.obj? k w = some (t, sz, rows)
def PresB (B : Nat) (t : TypeId) (T T' : Store) : Prop := ∀ k w sz rows, k < B → T.obj? k w = some (t, sz, rows) → T'.obj? k w = some (t, sz, rows)
theorem Pres.b {B : Nat} {t : TypeId} {T T' : Store} (h : Pres t T T') : PresB B t T T' := fun k w sz rows _ ho => h k w sz rows ho
theorem Pres.trans {t : TypeId} {T T' T'' : Store} (h : Pres t T T') (h' : Pres t T' T'') : Pres t T T'' := fun k w sz rows ho => h' k w sz rows (h k w sz rows ho)
theorem PresB.trans {B : Nat} {t : TypeId} {T T' T'' : Store} (h : PresB B t T T') (h' : PresB B t T' T'') : PresB B t T T'' := fun k w sz rows hk ho => h' k w sz rows hk (h k w sz rows hk ho)
theorem Pres.push (t : TypeId) (T : Store) (o : AL.Obj) : Pres t T (T ++ [o]) := fun k w sz rows h => by rw [ob_low (obj_lt h)]; exact h
theorem obj_ne {T : Store} {k j w : Nat} {o : AL.Obj} (h : k ≠ j) : Store.obj? (T.set j o) k w = T.obj? k w := by
  simp only [Store.obj?]
  rw [List.getElem?_set_ne (Ne.symm h)]
theorem Pres.set {t t' : TypeId} {T : Store} {j v : Nat} {x : Nat × List (List V)} {o : AL.Obj} (h : T.obj? j v = some (t', x)) (ht : t ≠ t') : Pres t T (T.set j o) := fun k w sz rows ho => by
  rw [obj_ne]
  · exact ho
  · rintro rfl
    obtain ⟨sz0, rows0⟩ := x
    have h1 := obj_some h
    have h2 := obj_some ho
    rw [h1] at h2
    cases h2
    exact ht rfl
theorem PresB.set {B : Nat} {t : TypeId} {T : Store} {j : Nat} {o : AL.Obj} (h : B ≤ j) : PresB B t T (T.set j o) := fun k w sz rows hk ho => by
  rw [obj_ne (by omega)]
  exact ho
def Fin (S T : Store) (B : Nat) (v : V) (e : List Txt) : Prop := ∃ j w, j < B ∧ v = .msl (S.length + (j + 2)) w 0 e.length ∧ T.obj? j w = some (9, 1, e.map cmR)
def CurE (S T : Store) (B : Nat) (c : V) (comps : List Txt) : Prop := (comps = [] ∧ c = .nilSl) ∨ ∃ j w, B ≤ j ∧ c = .msl (S.length + (j + 2)) w 0 comps.length ∧ T.obj? j w = some (9, 1, comps.map cmR)
def TxE (S T : Store) (tx : V) (text : Txt) : Prop := (text = [] ∧ tx = .nilSl) ∨ ∃ j w, tx = .msl (S.length + (j + 2)) w 0 text.length ∧ T.obj? j w = some (5, 1, byteRows text)
def Elm (S T : Store) (B : Nat) (cs : List V) (els : List (List Txt)) : Prop := cs.length = els.length ∧ ∀ (i : Nat) (v : V) (x : List Txt), cs[i]? = some v → els[i]? = some x → Fin S T B v x
theorem Fin.pres {S T T' : Store} {B : Nat} {v : V} {e : List Txt} (h : Fin S T B v e) (hp : PresB B 9 T T') : Fin S T' B v e := by
  obtain ⟨j, w, h1, h2, h3⟩ := h
  exact ⟨j, w, h1, h2, hp _ _ _ _ h1 h3⟩
theorem Fin.mono {S T : Store} {B B' : Nat} {v : V} {e : List Txt} (h : Fin S T B v e) (hb : B ≤ B') : Fin S T B' v e := by
  obtain ⟨j, w, h1, h2, h3⟩ := h
  exact ⟨j, w, by omega, h2, h3⟩
theorem Elm.pres {S T T' : Store} {B : Nat} {cs : List V} {els : List (List Txt)} (h : Elm S T B cs els) (hp : PresB B 9 T T') : Elm S T' B cs els := ⟨h.1, fun i v x hv hx => (h.2 i v x hv hx).pres hp⟩
theorem Elm.mono {S T : Store} {B B' : Nat} {cs : List V} {els : List (List Txt)} (h : Elm S T B cs els) (hb : B ≤ B') : Elm S T B' cs els := ⟨h.1, fun i v x hv hx => (h.2 i v x hv hx).mono hb⟩
theorem Elm.snoc {S T : Store} {B : Nat} {cs : List V} {els : List (List Txt)} {c : V} {e : List Txt} (h : Elm S T B cs els) (hc : Fin S T B c e) : Elm S T B (cs ++ [c]) (els ++ [e]) := by
  refine ⟨by simp [h.1], fun i v x hv hx => ?_⟩
  by_cases hi : i < cs.length
  · rw [List.getElem?_append_left hi] at hv
    rw [List.getElem?_append_left (by rw [← h.1]; exact hi)] at hx
    exact h.2 i v x hv hx
  · rw [List.getElem?_append_right (by omega)] at hv
    rw [List.getElem?_append_right (by rw [← h.1]; omega)] at hx
    have hlt := (List.getElem?_eq_some_iff.1 hv).1
    simp only [List.length_cons, List.length_nil] at hlt
    have : i = cs.length := by omega
    subst this
    rw [Nat.sub_self] at hv
    rw [h.1, Nat.sub_self] at hx
    simp at hv hx
    subst hv hx
    exact hc
theorem CurE.pres {S T T' : Store} {B : Nat} {c : V} {comps : List Txt} (h : CurE S T B c comps) (hp : Pres 9 T T') : CurE S T' B c comps := by
  rcases h with h | ⟨j, w, h1, h2, h3⟩
  · exact .inl h
  · exact .inr ⟨j, w, h1, h2, hp _ _ _ _ h3⟩
theorem TxE.pres {S T T' : Store} {tx : V} {text : Txt} (h : TxE S T tx text) (hp : Pres 5 T T') : TxE S T' tx text := by
  rcases h with h | ⟨j, w, h2, h3⟩
  · exact .inl h
  · exact .inr ⟨j, w, h2, hp _ _ _ _ h3⟩
def oneR (v : V) : List V := [v]
def Mid (S T : Store) (els : List (List Txt)) (comps : List Txt) (text : Txt) (e tx : V) : Prop :=
  ∃ j w cs c B, e = .msl (S.length + (j + 2)) w 0 (els.length + 1) ∧ T.obj? j w = some (62, 1, cs.map oneR ++ [[c]]) ∧ Elm S T B cs els ∧ B ≤ T.length ∧ CurE S T B c comps ∧ TxE S T tx text
def Sta (S T : Store) (els : List (List Txt)) (cur : Option (List Txt × Txt)) (e tx : V) : Prop :=
  match cur with
  | none => e = .nilSl ∧ tx = .nilSl ∧ els = []
  | some (comps, text) => Mid S T els comps text e tx
def NeatIn (S : Store) : Prop := (∀ (id ver : Nat) (e : TypeId) (sz : Nat) (rows : List (List V)), S[id]? = some ⟨ver, some (.arr e sz rows)⟩ → ∀ r ∈ rows, r.length = sz ∧ V.allUnder (S.length + 2) r = true) ∧
  ∀ (id ver : Nat) (m : MapC), S[id]? = some ⟨ver, some (.mp m)⟩ → (∀ p ∈ m.rows, p.1.under (S.length + 2) = true ∧ p.2.under (S.length + 2) = true ∧ isKV m.kd p.1 = true) ∧ ∀ of p, m.x = .iter of (some p) → p.1.under (S.length + 2) = true ∧ p.2.under (S.length + 2) = true
theorem fgt_two {S T : Store} {b' o' o1 : AL.Obj} (hn : NeatIn S)
    (hb : ∀ (e : TypeId) (sz : Nat) (rows : List (List V)), b'.st = some (.arr e sz rows) → ∀ r ∈ rows, r.length = sz ∧ V.allUnder (S.length + 2) r = true) (hv : o'.ver = o1.ver) (hbM : ∀ m, b'.st ≠ some (.mp m)) (hoM : ∀ m, o1.st ≠ some (.mp m))
    (ho : ∀ (t : TypeId) (sz : Nat) (rows1 : List (List V)), o1.st = some (.arr t sz rows1) → ∃ rows, o'.st = some (.arr t sz rows) ∧ rows1.length = rows.length ∧ (∀ (i : Nat) (r1 : List V), rows1[i]? = some r1 → r1.length = sz) ∧
      ∀ (i : Nat) (r1 : List V), rows1[i]? = some r1 → ∀ (j : Nat) (v1 : V), r1[j]? = some v1 → ∀ (r : List V) (x : V), rows[i]? = some r → r[j]? = some x → Frz (S ++ b' :: o' :: T) (S ++ [b', o1]) x v1) :
    Fgt (S ++ b' :: o' :: T) (S ++ [b', o1]) where
  len := by simp
  obj id o2 h2 := by
    have hl : (S ++ [b', o1]).length = S.length + 2 := by simp
    have same : ∀ (rows : List (List V)) (sz : Nat), (∀ r ∈ rows, r.length = sz ∧ V.allUnder (S.length + 2) r = true) → ∀ (i : Nat) (r1 : List V), rows[i]? = some r1 → ∀ (j : Nat) (v1 : V), r1[j]? = some v1 → ∀ (r : List V) (x : V), rows[i]? = some r → r[j]? = some x → Frz (S ++ b' :: o' :: T) (S ++ [b', o1]) x v1 := by
      intro rows sz h i r1 hi j v1 hj r x hi' hj'
      rw [hi] at hi'
      cases hi'
      rw [hj] at hj'
      cases hj'
      refine .same (.inl ?_)
      rw [hl]
      exact V.allUnder_get (h r1 (List.mem_of_getElem? hi)).2 j v1 hj
    by_cases h0 : id < S.length
    · rw [List.getElem?_append_left h0] at h2
      refine ⟨o2, by rw [List.getElem?_append_left h0]; exact h2, rfl, fun t sz rows1 hst => ⟨rows1, hst, rfl, ?_, ?_⟩⟩
      · obtain ⟨ver, st⟩ := o2
        simp only at hst
        subst hst
        exact fun i r1 hi => (hn.1 id ver t sz rows1 h2 r1 (List.mem_of_getElem? hi)).1
      · obtain ⟨ver, st⟩ := o2
        simp only at hst
        subst hst
        exact same rows1 sz (hn.1 id ver t sz rows1 h2)
    · obtain ⟨k, rfl⟩ : ∃ k, id = S.length + k := ⟨id - S.length, by omega⟩
      rw [List.getElem?_append_right (by omega), Nat.add_sub_cancel_left] at h2
      match k, h2 with
      | 0, h2 =>
        simp at h2
        subst h2
        exact ⟨b', by rw [List.getElem?_append_right (by omega), Nat.add_sub_cancel_left]; rfl, rfl, fun t sz rows1 hst => ⟨rows1, hst, rfl, fun i r1 hi => (hb t sz rows1 hst r1 (List.mem_of_getElem? hi)).1, same rows1 sz (hb t sz rows1 hst)⟩⟩
      | 1, h2 =>
        simp at h2
        subst h2
        exact ⟨o', by rw [List.getElem?_append_right (by omega), Nat.add_sub_cancel_left]; rfl, hv, ho⟩
      | k + 2, h2 => simp at h2
  objM id o2 h2 m1 hst := by
    have hl : (S ++ [b', o1]).length = S.length + 2 := by simp
    by_cases h0 : id < S.length
    · rw [List.getElem?_append_left h0] at h2
      obtain ⟨ver, st⟩ := o2
      simp only at hst
      subst hst
      obtain ⟨k1, k2⟩ := hn.2 id ver m1 h2
      refine ⟨_, m1, by rw [List.getElem?_append_left h0]; exact h2, rfl, rfl, .same fun of p hp => .inl (by rw [hl]; exact k2 of p hp), rfl, rfl, fun p hp => (k1 p hp).2.2, fun i p1 p h1 h3 => ?_⟩
      rw [h1] at h3
      cases h3
      have := k1 p1 (List.mem_of_getElem? h1)
      exact ⟨.same (.inl (by rw [hl]; exact this.1)), .same (.inl (by rw [hl]; exact this.2.1))⟩
    · obtain ⟨k, rfl⟩ : ∃ k, id = S.length + k := ⟨id - S.length, by omega⟩
      rw [List.getElem?_append_right (by omega), Nat.add_sub_cancel_left] at h2
      match k, h2 with
      | 0, h2 =>
        simp at h2
        subst h2
        exact absurd hst (hbM m1)
      | 1, h2 =>
        simp at h2
        subst h2
        exact absurd hst (hoM m1)
      | k + 2, h2 => simp at h2
end Go.Proofs.YtlnpfnoemhjheaaGreatDoor.Ed
