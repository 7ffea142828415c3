/- Lines: words joined, words read. -/
import Derived.Test.YtkdbghhdklfoiaaDoorSFa6
import Derived.Test.YtkdbghhdklfoiaaDoorSAlM
namespace Go.Proofs.YtkdbghhdklfoiaaDoor
open Go Go.AL Go.RowKit
set_option linter.unusedSectionVars false
variable [Go.AL.Mode] [Go.AL.LooseM]
set_option linter.unusedSimpArgs false
set_option linter.unusedVariables false
def txR (t : Txt) : List V := [.str t]
def txSl (l : List (List UInt8)) : V := .sl 1 (l.map txR)
theorem join_A (l : List (List UInt8)) (sep : List UInt8) (S : Store) (hn : l.length ≤ 140737488355328) (hlen : (Lib.join l sep).length ≤ 140737488355328) :
    CallA Tryd.prog 56 [txSl l, .str sep] S fun r S' => r = .str (Lib.join l sep) ∧ S' = S := by
  refine ⟨⟨Tryd.f56, Tryd.func56, by kernel_rfl, by kernel_rfl⟩, fun ρ w us hi hv => ?_⟩
  obtain ⟨hl, hv⟩ := hv
  obtain ⟨u, hu, hr⟩ := hv 0 _ rfl
  obtain ⟨u2, hu2, hr2⟩ := hv 1 _ rfl
  have hus : us = #[u, u2] := by
    apply Array.ext
    · simpa using hl
    · intro i h1 h2
      have h2' : i < 2 := by simpa using h2
      match i, h2' with
      | 0, _ => rw [Array.getElem?_eq_getElem h1] at hu; exact Option.some.inj hu
      | 1, _ => rw [Array.getElem?_eq_getElem h1] at hu2; exact Option.some.inj hu2
  subst hus
  cases hr2 with
  | str he hm =>
    rename_i sp
    subst he
    have done : ∀ (l' : List (List UInt8)), Lib.join l' sp.data.toList = Lib.join l sp.data.toList → (Lib.join l sp.data.toList).toArray.size ≤ maxLen := fun _ _ => by
      rw [List.size_toArray]; unfold maxLen; omega
    unfold txSl at hr
    generalize hrows : l.map txR = rows at hr
    cases hr with
    | slNil =>
      have : l = [] := by cases l with | nil => rfl | cons a r => cases hrows
      subst this
      rename_i p
      refine (Go.Proofs.Tryd.strings_Join_none p 0 sp w).mono fun en w' he => ?_
      obtain ⟨he, hw⟩ := he
      subst hw
      exact ⟨ρ, S, _, _, he, .str (by rfl) (Nat.zero_le _), hi, Ext.refl _ _ _, rfl, rfl⟩
    | sl c hug hlen2 hcap hmax hsz hc hvv h1 =>
      rename_i g off len cap
      have hxl : (l.map fun t => (⟨t.toArray⟩ : ByteArray)).length = len := by rw [hlen2, ← hrows]; simp
      have hxm : (l.map fun t => (⟨t.toArray⟩ : ByteArray)).map (·.data.toList) = l := by
        rw [List.map_map]
        exact List.map_id' l
      have key := Go.Proofs.Tryd.strings_Join g off cap (l.map fun t => (⟨t.toArray⟩ : ByteArray)) sp w (fun j x hx => by
        rw [List.getElem?_map] at hx
        cases ht : l[j]? with
        | none => rw [ht] at hx; cases hx
        | some t =>
          rw [ht] at hx
          cases hx
          have hr1 : rows[j]? = some (txR t) := by rw [← hrows, List.getElem?_map, ht]; rfl
          have a := hc j _ hr1 0 (.str t) rfl
          have b := hvv j _ hr1 0 (.str t) rfl
          rw [Nat.mul_one, Nat.add_zero] at a
          rw [a]
          generalize c j 0 = y at b
          cases b with
          | str h2 h3 => rw [← h2]) hug.1 (by simpa using hn) (by omega) (by rw [hxm]; exact hlen)
      rw [hxl, hxm] at key
      refine key.mono fun en w' ⟨he, hw⟩ => ?_
      exact ⟨ρ, S, _, _, he, .str (by simp) (done l rfl), inv_below hi hw, ext_below hw, rfl, rfl⟩
theorem tx_imm (l : List Txt) : ∀ r ∈ l.map txR, r.length = 1 ∧ V.allImm r = true := fun r hr => by
  obtain ⟨x, _, rfl⟩ := List.mem_map.1 hr
  exact ⟨rfl, rfl⟩
theorem take_at {α : Type} {l : List α} {k : Nat} {x : α} (h : l[k]? = some x) : l.take (k + 1) = l.take k ++ [x] := by
  rw [List.take_add_one, h]
  rfl
theorem frzK {S : Store} {q : TypeId} {sz : Nat} {rows : List (List V)} {v : V} {T : Store} (h : LG S q sz rows v (S ++ T)) (hr : ∀ r ∈ rows, r.length = sz ∧ V.allImm r = true) : Frz (S ++ T) (S ++ kill T) v (.sl sz rows) := by
  rcases h.here with ⟨rfl, rfl⟩ | ⟨id, ver, h3, rfl, h5⟩
  · exact .nil
  · exact .dead (dead_kill h3) h5 rfl hr
def lineF (l : List Txt) : Txt := Lib.join l [32]
set_option maxHeartbeats 1000000 in
theorem tjoin_A (l : List Txt) (hp : ∀ t ∈ l, plainF t = true) (hn : l.length ≤ 1000000) (hlen : (lineF l).length ≤ 140737488355328) (S : Store) :
    CallA Tryd.prog 27 [txSl l] S fun r S' => r = .str (lineF l) ∧ S' = S := by
  refine CallA.withNeat Tryd.func27 c10027 fun hn0 => ?_
  refine CallA.fin Tryd.func27 c10027 (Nat.le_of_ble_eq_true rfl) fun σ hσ => ?_
  have pl := fun s S => plain_A s S
  simp (disch := first | omega | (simp only [lenT]; omega)) only [a10027, txSl, evSt, ↓evPre, ↓evPreW, evPost, evPostW, evR, evU, seval]
  refine ⟨by unfold roomA; omega, ?_⟩
  refine loopF (ι := Nat × V × Store) (fun i => [(3, i.2.1), (9, .sl 1 (l.map txR)), (10, .int .i64 l.length), (11, .int .i64 i.1)]) (fun i => i.2.2)
    (fun i => i.1 ≤ l.length ∧ LG S 9 1 ((l.take i.1).map txR) i.2.1 i.2.2) (fun i => l.length - i.1)
    (fun i hi => by rw [hσ]; obtain ⟨T, hT⟩ := hi.2.ext; rw [hT]; simp) (0, .msl S.length 0 0 0, S ++ [⟨0, some (.arr 9 1 [])⟩]) ⟨Nat.zero_le _, ⟨⟨_, rfl⟩, .inr ⟨S.length, 0, Nat.le_refl _, rfl, ob_app0.trans ob_head⟩⟩⟩ (.inl ⟨?_, rfl⟩) ?_
  · simp only [↓evPre, ↓evPreW, evPost, evPostW, evR, evU, seval]
    try rfl
  rintro ⟨k, v, S1⟩ ⟨hk, hg⟩
  simp only at hk hg ⊢
  cases hc : l[k]? with
  | none =>
    have hge : l.length ≤ k := List.getElem?_eq_none_iff.1 hc
    have hlt : ¬ ((k : Int) < l.length) := by omega
    obtain ⟨T, rfl⟩ := hg.ext
    rw [List.take_of_length_le hge] at hg
    simp (disch := first | omega | (simp only [lenT]; omega)) only [dF hlt, evSt, ↓evPre, ↓evPreW, evPost, evPostW, evR, evU, seval]
    refine (CallA.killedL hn0 (args := [v, .str [32]]) (join_A l [32] (S ++ kill T) (by omega) hlen) ⟨frzK hg (tx_imm l), .imm rfl, trivial⟩).mono ?_
    rintro r S2 ⟨rfl, rfl⟩
    simp (disch := first | omega | (simp only [lenT]; omega)) only [evSt, ↓evPre, ↓evPreW, evPost, evPostW, evR, evU, seval]
    exact ⟨_, S, hn0.fgt _, .imm rfl, Nat.le_refl _, rfl, rfl⟩
  | some t =>
    have hlt' := (List.getElem?_eq_some_iff.1 hc).1
    have hlt : ((k : Int) < l.length) := by omega
    have hk1 : (k : Int) + 1 = ((k + 1 : Nat) : Int) := by omega
    have hpt := hp t (List.mem_of_getElem? hc)
    simp (disch := first | omega | (simp only [lenT]; omega)) only [dT hlt, hc, txR, evSt, ↓evPre, ↓evPreW, evPost, evPostW, evR, evU, seval]
    refine (pl _ _).then ?_
    simp (disch := first | omega | (simp only [lenT]; omega)) only [hpt, evSt, ↓evPre, ↓evPreW, evPost, evPostW, evR, evU, seval]
    refine hg.app (by simp; omega) fun v' S2 h2 => ?_
    have htk : (l.take (k + 1)).map txR = (l.take k).map txR ++ [txR t] := by rw [take_at hc]; simp
    rw [show [[V.str t]] = [txR t] from rfl, ← htk] at h2
    simp (disch := first | omega | (simp only [lenT]; omega)) only [wrap_i64, hk1, evSt, ↓evPre, ↓evPreW, evPost, evPostW, evR, evU, seval]
    exact ⟨(k + 1, v', S2), ⟨by simp only; omega, h2⟩, by simp only; omega, .inl ⟨by simp only [↓evPre, ↓evPreW, evPost, evPostW, evR, evU, seval]; try rfl, rfl⟩⟩
def wordF (u : Txt → Option Txt) (p : Txt) : Option Txt := if plainF p = true then some p else match u p with
  | some t => if plainF t = true then none else some t
  | none => none
def wordsL (u : Txt → Option Txt) : List Txt → Option (List Txt)
  | [] => some []
  | p :: l => match wordF u p, wordsL u l with
    | some t, some m => some (t :: m)
    | _, _ => none
def wordsF (u : Txt → Option Txt) (s : Txt) : Option (List Txt) := if s = [] then some [] else match cutF s with
  | some l => wordsL u l
  | none => none
def wordsV (u : Txt → Option Txt) (s : Txt) : V := match wordsF u s with
  | some l => .tup [txSl l, .int .i64 0]
  | none => .tup [.sl 1 [], .int .i64 3]
def unqV : Option Txt → V
  | some t => .tup [.str t, .int .i64 0]
  | none => .tup [.str [], .int .i64 3]
theorem wordsL_plain (u : Txt → Option Txt) : ∀ l : List Txt, (∀ t ∈ l, plainF t = true) → wordsL u l = some l
  | [], _ => rfl
  | p :: l, h => by
    rw [wordsL, wordsL_plain u l fun t ht => h t (List.mem_cons_of_mem _ ht)]
    unfold wordF
    rw [if_pos (h p (List.mem_cons_self ..))]
theorem wordsL_app (u : Txt → Option Txt) : ∀ (a b : List Txt), wordsL u (a ++ b) = (wordsL u a).bind fun x => (wordsL u b).map fun y => x ++ y
  | [], b => by
    rw [List.nil_append, wordsL]
    cases wordsL u b <;> rfl
  | p :: a, b => by
    rw [List.cons_append, wordsL, wordsL_app u a b, wordsL]
    cases wordF u p <;> cases wordsL u a <;> cases wordsL u b <;> rfl
theorem wordsL_bad {u : Txt → Option Txt} {l : List Txt} {k : Nat} {p : Txt} (h : l[k]? = some p) (hw : wordF u p = none) : wordsL u l = none := by
  obtain ⟨hlt, rfl⟩ := List.getElem?_eq_some_iff.1 h
  rw [← List.take_append_drop k l, wordsL_app, List.drop_eq_getElem_cons hlt, wordsL, hw]
  cases wordsL u (l.take k) <;> rfl
theorem wordsL_next {u : Txt → Option Txt} {l : List Txt} {k : Nat} {p t : Txt} {m : List Txt} (h : l[k]? = some p) (hm : wordsL u (l.take k) = some m) (hw : wordF u p = some t) : wordsL u (l.take (k + 1)) = some (m ++ [t]) := by
  rw [take_at h, wordsL_app, hm, wordsL, hw]
  rfl
theorem wordsL_len {u : Txt → Option Txt} : ∀ {l m : List Txt}, wordsL u l = some m → m.length = l.length
  | [], m, h => by cases h; rfl
  | p :: l, m, h => by
    rw [wordsL] at h
    cases hp : wordF u p with
    | none => rw [hp] at h; cases h
    | some t =>
      cases hl : wordsL u l with
      | none => rw [hp, hl] at h; cases h
      | some m' =>
        rw [hp, hl] at h
        cases h
        rw [List.length_cons, List.length_cons, wordsL_len hl]
theorem cut_count {s : Txt} {l : List Txt} (h : cutF s = some l) : l.length ≤ s.length + 1 := by
  unfold cutF at h
  split at h
  · cases h
    have := (cut_fr s s.length).2
    simp
    omega
  · cases h
set_option maxHeartbeats 1000000 in
theorem words_A (u : Txt → Option Txt) (s : Txt) (hs : s.length ≤ 1000000) (hu : ∀ l, cutF s = some l → ∀ p ∈ l, plainF p = false → ∀ S, CallA Tryd.prog 62 [.str p] S fun r S' => r = unqV (u p) ∧ S' = S) (S : Store) :
    CallA Tryd.prog 31 [.str s] S fun r S' => r = wordsV u s ∧ S' = S := by
  refine CallA.withNeat Tryd.func31 c10031 fun hn0 => ?_
  refine CallA.fin Tryd.func31 c10031 (Nat.le_of_ble_eq_true rfl) fun σ hσ => ?_
  have pl := fun s S => plain_A s S
  by_cases h0 : s = []
  · subst h0
    simp (disch := first | omega | (simp only [lenT]; omega)) only [a10031, evSt, ↓evPre, ↓evPreW, evPost, evPostW, evR, evU, seval]
    exact ⟨_, S, hn0.self, .tup2 .nil (.imm rfl), Nat.le_refl _, rfl, rfl⟩
  simp (disch := first | omega | (simp only [lenT]; omega)) only [a10031, dF h0, evSt, ↓evPre, ↓evPreW, evPost, evPostW, evR, evU, seval]
  refine (cut_A s (by omega) S).then ?_
  unfold cutV
  cases hcut : cutF s with
  | none =>
    have hw : wordsF u s = none := by unfold wordsF; rw [if_neg h0, hcut]
    simp (disch := first | omega | (simp only [lenT]; omega)) only [evSt, ↓evPre, ↓evPreW, evPost, evPostW, evR, evU, seval]
    exact ⟨_, S, hn0.self, .tup2 .nil (.imm rfl), Nat.le_refl _, by unfold wordsV; rw [hw], rfl⟩
  | some l =>
    have hcn := cut_count hcut
    have hu := hu l hcut
    have hw : wordsF u s = wordsL u l := by unfold wordsF; rw [if_neg h0, hcut]
    simp (disch := first | omega | (simp only [lenT]; omega)) only [evSt, ↓evPre, ↓evPreW, evPost, evPostW, evR, evU, seval]
    refine ⟨by unfold roomA; omega, ?_⟩
    rw [show (l.map fun t => [V.str t]) = l.map txR from rfl]
    refine loopF (ι := Nat × V × Store) (fun i => [(6, i.2.1), (23, .sl 1 (l.map txR)), (24, .int .i64 l.length), (25, .int .i64 i.1)]) (fun i => i.2.2)
      (fun i => i.1 ≤ l.length ∧ ∃ m, wordsL u (l.take i.1) = some m ∧ LG S 9 1 (m.map txR) i.2.1 i.2.2) (fun i => l.length - i.1)
      (fun i hi => by rw [hσ]; obtain ⟨_, m, _, hi⟩ := hi; obtain ⟨T, hT⟩ := hi.ext; rw [hT]; simp) (0, .msl S.length 0 0 0, S ++ [⟨0, some (.arr 9 1 [])⟩]) ⟨Nat.zero_le _, [], rfl, ⟨⟨_, rfl⟩, .inr ⟨S.length, 0, Nat.le_refl _, rfl, ob_app0.trans ob_head⟩⟩⟩ (.inl ⟨?_, rfl⟩) ?_
    · simp only [↓evPre, ↓evPreW, evPost, evPostW, evR, evU, seval]
      try rfl
    rintro ⟨k, v, S1⟩ ⟨hk, m, hm, hg⟩
    simp only at hk hm hg ⊢
    cases hc : l[k]? with
    | none =>
      have hge : l.length ≤ k := List.getElem?_eq_none_iff.1 hc
      have hlt : ¬ ((k : Int) < l.length) := by omega
      rw [List.take_of_length_le hge] at hm
      simp (disch := first | omega | (simp only [lenT]; omega)) only [dF hlt, evSt, ↓evPre, ↓evPreW, evPost, evPostW, evR, evU, seval]
      have hf := hg.fin hn0 (tx_imm m)
      exact ⟨_, S, hf.1, .tup2 hf.2 (.imm rfl), Nat.le_refl _, by unfold wordsV; rw [hw, hm]; rfl, rfl⟩
    | some t =>
      have hlt' := (List.getElem?_eq_some_iff.1 hc).1
      have hlt : ((k : Int) < l.length) := by omega
      have hk1 : (k : Int) + 1 = ((k + 1 : Nat) : Int) := by omega
      have hml := wordsL_len hm
      rw [List.length_take] at hml
      simp (disch := first | omega | (simp only [lenT]; omega)) only [dT hlt, hc, txR, evSt, ↓evPre, ↓evPreW, evPost, evPostW, evR, evU, seval]
      refine (pl _ _).then ?_
      cases hpt : plainF t with
      | true =>
        have hwt : wordF u t = some t := by unfold wordF; rw [if_pos hpt]
        simp (disch := first | omega | (simp only [lenT]; omega)) only [hpt, evSt, ↓evPre, ↓evPreW, evPost, evPostW, evR, evU, seval]
        refine hg.app (by simp; omega) fun v' S2 h2 => ?_
        rw [show m.map txR ++ [[V.str t]] = (m ++ [t]).map txR by simp [txR]] at h2
        simp (disch := first | omega | (simp only [lenT]; omega)) only [wrap_i64, hk1, evSt, ↓evPre, ↓evPreW, evPost, evPostW, evR, evU, seval]
        exact ⟨(k + 1, v', S2), ⟨by simp only; omega, m ++ [t], wordsL_next hc hm hwt, h2⟩, by simp only; omega, .inl ⟨by simp only [↓evPre, ↓evPreW, evPost, evPostW, evR, evU, seval]; try rfl, rfl⟩⟩
      | false =>
        simp (disch := first | omega | (simp only [lenT]; omega)) only [hpt, evSt, ↓evPre, ↓evPreW, evPost, evPostW, evR, evU, seval]
        refine (hu t (List.mem_of_getElem? hc) hpt _).then ?_
        cases huq : u t with
        | none =>
          have hwt : wordF u t = none := by unfold wordF; rw [if_neg (by rw [hpt]; simp), huq]
          simp (disch := first | omega | (simp only [lenT]; omega)) only [unqV, evSt, ↓evPre, ↓evPreW, evPost, evPostW, evR, evU, seval]
          exact ⟨_, S, hg.fgt hn0, .tup2 .nil (.imm rfl), Nat.le_refl _, by unfold wordsV; rw [hw, wordsL_bad hc hwt], rfl⟩
        | some t2 =>
          simp (disch := first | omega | (simp only [lenT]; omega)) only [unqV, evSt, ↓evPre, ↓evPreW, evPost, evPostW, evR, evU, seval]
          refine (pl _ _).then ?_
          cases hpt2 : plainF t2 with
          | true =>
            have hwt : wordF u t = none := by unfold wordF; rw [if_neg (by rw [hpt]; simp), huq]; simp only [hpt2, if_true]
            simp (disch := first | omega | (simp only [lenT]; omega)) only [hpt2, evSt, ↓evPre, ↓evPreW, evPost, evPostW, evR, evU, seval]
            exact ⟨_, S, hg.fgt hn0, .tup2 .nil (.imm rfl), Nat.le_refl _, by unfold wordsV; rw [hw, wordsL_bad hc hwt], rfl⟩
          | false =>
            have hwt : wordF u t = some t2 := by unfold wordF; rw [if_neg (by rw [hpt]; simp), huq]; simp only [hpt2]; rfl
            simp (disch := first | omega | (simp only [lenT]; omega)) only [hpt2, evSt, ↓evPre, ↓evPreW, evPost, evPostW, evR, evU, seval]
            refine hg.app (by simp; omega) fun v' S2 h2 => ?_
            rw [show m.map txR ++ [[V.str t2]] = (m ++ [t2]).map txR by simp [txR]] at h2
            simp (disch := first | omega | (simp only [lenT]; omega)) only [wrap_i64, hk1, evSt, ↓evPre, ↓evPreW, evPost, evPostW, evR, evU, seval]
            exact ⟨(k + 1, v', S2), ⟨by simp only; omega, m ++ [t2], wordsL_next hc hm hwt, h2⟩, by simp only; omega, .inl ⟨by simp only [↓evPre, ↓evPreW, evPost, evPostW, evR, evU, seval]; try rfl, rfl⟩⟩
end Go.Proofs.YtkdbghhdklfoiaaDoor
/- The reader: a list of words and the first error. -/
namespace Go.Proofs.YtkdbghhdklfoiaaDoor
open Go Go.AL Go.RowKit
set_option linter.unusedSectionVars false
variable [Go.AL.Mode] [Go.AL.LooseM]
set_option linter.unusedSimpArgs false
set_option linter.unusedVariables false
def rdR (ws : List Txt) (e : Int) : List V := [.sl 1 (ws.map txR), .int .i64 e]
def rdO (ws : List Txt) (e : Int) : Go.AL.Obj := ⟨0, some (.arr 94 2 [rdR ws e])⟩
def Rd (S : Store) (p : Nat) (ws : List Txt) (e : Int) : Prop := S.obj? p 0 = some (94, 2, [rdR ws e])
theorem Rd.lt {S : Store} {p : Nat} {ws : List Txt} {e : Int} (h : Rd S p ws e) : p < S.length := obj_lt h
theorem Rd.at {S : Store} {p : Nat} {ws : List Txt} {e : Int} (h : Rd S p ws e) : S[p]? = some (rdO ws e) := by
  unfold Rd Store.obj? at h
  split at h
  · rename_i h2
    rw [h2]
    split at h
    · rename_i hv
      cases h
      subst hv
      rfl
    · cases h
  · cases h
theorem Rd.set {S : Store} {p : Nat} {ws : List Txt} {e : Int} (h : Rd S p ws e) (ws' : List Txt) (e' : Int) : Rd (S.set p (rdO ws' e')) p ws' e' := obj_set h
def nxF (ws : List Txt) (e : Int) : Txt := if e = 0 then ws.head?.getD [] else []
structure Rs where
  ws : List Txt
  e : Int
def wdF (s : Rs) : Txt × Rs := if s.e = 0 then (match s.ws with
  | [] => ([], ⟨[], 3⟩)
  | w :: l => (w, ⟨l, 0⟩)) else ([], s)
def muF (c : Txt) (s : Rs) : Rs := if (wdF s).1 ≠ c ∧ (wdF s).2.e = 0 then ⟨(wdF s).2.ws, 3⟩ else (wdF s).2
def amF (s : Rs) : Int × Rs := if (wdF s).2.e = 0 then ((mparF (wdF s).1).1, ⟨(wdF s).2.ws, (mparF (wdF s).1).2⟩) else (0, (wdF s).2)
theorem next_A {S : Store} {p : Nat} {ws : List Txt} {e : Int} (h : Rd S p ws e) : CallA Tryd.prog 33 [.ptr p 0 0 0] S fun r S' => r = .str (nxF ws e) ∧ S' = S := by
  refine CallA.keep Tryd.func33 c10033 (Nat.le_of_ble_eq_true rfl) fun σ hσ => ?_
  unfold Rd rdR at h
  by_cases he : e = 0
  · subst he
    cases ws with
    | nil =>
      simp (disch := first | omega | (simp only [lenT]; omega)) only [a10033, h, nxF, txR, List.map_nil, List.map_cons, List.length_cons, evSt, ↓evPre, ↓evPreW, evPost, evPostW, evR, evU, seval]
      try rfl
    | cons w l =>
      have h0 : ¬ ((l.length + 1 : Nat) : Int) = 0 := by omega
      simp (disch := first | omega | (simp only [lenT]; omega)) only [a10033, h, nxF, txR, dF h0, List.map_nil, List.map_cons, List.length_cons, evSt, ↓evPre, ↓evPreW, evPost, evPostW, evR, evU, seval]
      try rfl
  · simp (disch := first | omega | (simp only [lenT]; omega)) only [a10033, h, nxF, dF he, if_neg he, evSt, ↓evPre, ↓evPreW, evPost, evPostW, evR, evU, seval]
    try rfl
theorem set_same {S : Store} {p : Nat} {o : Go.AL.Obj} (h : S[p]? = some o) : S.set p o = S := by
  apply List.ext_getElem?
  intro i
  by_cases hi : p = i
  · subst hi
    rw [List.getElem?_set_self (List.getElem?_eq_some_iff.1 h).1, h]
  · rw [List.getElem?_set_ne hi]
theorem word_A {S : Store} {p : Nat} {ws : List Txt} {e : Int} (h : Rd S p ws e) (hl : ws.length ≤ 1000000000) : CallA Tryd.prog 32 [.ptr p 0 0 0] S fun r S' => r = .str (wdF ⟨ws, e⟩).1 ∧ S' = S.set p (rdO (wdF ⟨ws, e⟩).2.ws (wdF ⟨ws, e⟩).2.e) := by
  refine CallA.keep Tryd.func32 c10032 (Nat.le_of_ble_eq_true rfl) fun σ hσ => ?_
  have hs := set_same h.at
  have h1 := fun e' => h.set ws e'
  unfold Rd rdR at h h1
  unfold wdF
  by_cases he : e = 0
  · subst he
    cases ws with
    | nil =>
      have h1 := h1 3
      unfold rdO rdR at h1
      simp only [List.map_nil] at h1
      simp (disch := first | omega | (simp only [lenT]; omega)) only [a10032, h, h1, rdO, rdR, txR, List.map_nil, List.map_cons, List.length_cons, evSt, ↓evPre, ↓evPreW, evPost, evPostW, evR, evU, seval]
    | cons w l =>
      have h0 : ¬ ((l.length + 1 : Nat) : Int) = 0 := by omega
      simp (disch := first | omega | (simp only [lenT]; omega)) only [a10032, h, rdO, rdR, txR, dF h0, List.map_nil, List.map_cons, List.length_cons, evSt, ↓evPre, ↓evPreW, evPost, evPostW, evR, evU, seval]
      rw [if_pos ⟨by omega, by omega⟩, List.take_length]
      have h2 := (show Rd S p (w :: l) 0 from h).set l 0
      unfold Rd rdO rdR at h2
      simp (disch := first | omega | (simp only [lenT]; omega)) only [h, h2, rdO, rdR, txR, List.map_nil, List.map_cons, List.length_cons, evSt, ↓evPre, ↓evPreW, evPost, evPostW, evR, evU, seval]
      try exact ⟨rfl, rfl⟩
  · simp (disch := first | omega | (simp only [lenT]; omega)) only [a10032, h, dF he, if_neg he, hs, evSt, ↓evPre, ↓evPreW, evPost, evPostW, evR, evU, seval]
theorem wd_txt {ws : List Txt} {e : Int} (h : ∀ w ∈ ws, w.length ≤ 1000000000) : (wdF ⟨ws, e⟩).1.length ≤ 1000000000 := by
  unfold wdF
  split
  · split
    · exact Nat.zero_le _
    · rename_i h2
      exact h _ (by simp only at h2; rw [h2]; exact List.mem_cons_self ..)
  · exact Nat.zero_le _
theorem wd_len (s : Rs) : (wdF s).2.ws.length ≤ s.ws.length := by
  unfold wdF
  split
  · split
    · simp
    · rename_i h; rw [h]; simp
  · exact Nat.le_refl _
theorem must_A {S : Store} {p : Nat} {ws : List Txt} {e : Int} (c : Txt) (h : Rd S p ws e) (hl : ws.length ≤ 1000000000) : CallA Tryd.prog 35 [.ptr p 0 0 0, .str c] S fun r S' => S' = S.set p (rdO (muF c ⟨ws, e⟩).ws (muF c ⟨ws, e⟩).e) := by
  refine CallA.keep Tryd.func35 c10035 (Nat.le_of_ble_eq_true rfl) fun σ hσ => ?_
  simp (disch := first | omega | (simp only [lenT]; omega)) only [a10035, evSt, ↓evPre, ↓evPreW, evPost, evPostW, evR, evU, seval]
  refine (word_A h hl).mono ?_
  rintro r S1 ⟨rfl, rfl⟩
  have h1 := h.set (wdF ⟨ws, e⟩).2.ws (wdF ⟨ws, e⟩).2.e
  unfold muF
  generalize wdF ⟨ws, e⟩ = x at *
  obtain ⟨w, ws1, e1⟩ := x
  simp only at h1 ⊢
  have h1' := h1
  unfold Rd rdR at h1'
  by_cases hw : w = c
  · subst hw
    simp (disch := first | omega | (simp only [lenT]; omega)) only [h1', evSt, ↓evPre, ↓evPreW, evPost, evPostW, evR, evU, seval]
    rw [if_neg (fun h => h.1 rfl)]
  by_cases he : e1 = 0
  · subst he
    simp (disch := first | omega | (simp only [lenT]; omega)) only [h1', dF hw, evSt, ↓evPre, ↓evPreW, evPost, evPostW, evR, evU, seval]
    rw [if_pos hw, List.set_set]
    rfl
  · simp (disch := first | omega | (simp only [lenT]; omega)) only [h1', dF hw, dF he, evSt, ↓evPre, ↓evPreW, evPost, evPostW, evR, evU, seval]
    rw [if_neg (fun h => he h.2)]
theorem amount_A {S : Store} {p : Nat} {ws : List Txt} {e : Int} (h : Rd S p ws e) (hl : ws.length ≤ 1000000000) (hw : ∀ w ∈ ws, w.length ≤ 1000000000) : CallA Tryd.prog 36 [.ptr p 0 0 0] S fun r S' => r = .int .i64 (amF ⟨ws, e⟩).1 ∧ S' = S.set p (rdO (amF ⟨ws, e⟩).2.ws (amF ⟨ws, e⟩).2.e) := by
  refine CallA.keep Tryd.func36 c10036 (Nat.le_of_ble_eq_true rfl) fun σ hσ => ?_
  simp (disch := first | omega | (simp only [lenT]; omega)) only [a10036, evSt, ↓evPre, ↓evPreW, evPost, evPostW, evR, evU, seval]
  refine (word_A h hl).mono ?_
  rintro r S1 ⟨rfl, rfl⟩
  have h1 := h.set (wdF ⟨ws, e⟩).2.ws (wdF ⟨ws, e⟩).2.e
  have hwl := wd_txt hw (e := e)
  unfold amF
  generalize wdF ⟨ws, e⟩ = x at *
  obtain ⟨w, ws1, e1⟩ := x
  simp only at h1 hwl ⊢
  have h1' := h1
  unfold Rd rdR at h1'
  by_cases he : e1 = 0
  · subst he
    simp (disch := first | omega | (simp only [lenT]; omega)) only [h1', evSt, ↓evPre, ↓evPreW, evPost, evPostW, evR, evU, seval]
    refine (mparse_A w hwl _).then ?_
    simp (disch := first | omega | (simp only [lenT]; omega)) only [h1', evSt, ↓evPre, ↓evPreW, evPost, evPostW, evR, evU, seval]
    rw [List.set_set]
    rfl
  · simp (disch := first | omega | (simp only [lenT]; omega)) only [h1', dF he, evSt, ↓evPre, ↓evPreW, evPost, evPostW, evR, evU, seval]
    rw [if_neg he]
    exact ⟨rfl, rfl⟩
def Frm (D : Nat → Prop) (S S' : Store) : Prop := S.length ≤ S'.length ∧ ∀ i, i < S.length → ¬ D i → S'[i]? = S[i]?
theorem Frm.refl (D : Nat → Prop) (S : Store) : Frm D S S := ⟨Nat.le_refl _, fun _ _ _ => rfl⟩
theorem Frm.trans {D : Nat → Prop} {S S' S'' : Store} (h : Frm D S S') (k : Frm D S' S'') : Frm D S S'' :=
  ⟨Nat.le_trans h.1 k.1, fun i hi hd => (k.2 i (by have := h.1; omega) hd).trans (h.2 i hi hd)⟩
theorem Frm.mono {D D' : Nat → Prop} {S S' : Store} (h : Frm D S S') (hd : ∀ i, i < S.length → D i → D' i) : Frm D' S S' :=
  ⟨h.1, fun i hi hn => h.2 i hi fun k => hn (hd i hi k)⟩
theorem Frm.add (D : Nat → Prop) (S X : Store) : Frm D S (S ++ X) := ⟨by simp, fun i hi _ => List.getElem?_append_left hi⟩
theorem Frm.set {D : Nat → Prop} {S S' : Store} (h : Frm D S S') {b : Nat} (hb : b < S.length → D b) (o : Go.AL.Obj) : Frm D S (S'.set b o) :=
  ⟨by rw [List.length_set]; exact h.1, fun i hi hn => by
    rw [List.getElem?_set_ne (fun e => hn (by subst e; exact hb hi))]
    exact h.2 i hi hn⟩
theorem Frm.obj {D : Nat → Prop} {S S' : Store} (h : Frm D S S') {id ver : Nat} {r : TypeId × Nat × List (List V)} (ho : S.obj? id ver = some r) (hd : ¬ D id) : S'.obj? id ver = some r := by
  have hlt := obj_lt ho
  unfold Store.obj? at *
  rw [h.2 id hlt hd]
  exact ho
theorem Frm.ext {D : Nat → Prop} {S0 S S' : Store} (h : Frm D S S') (hx : ∃ T, S = S0 ++ T) (hd : ∀ i, D i → S0.length ≤ i) : ∃ T, S' = S0 ++ T := by
  obtain ⟨T, rfl⟩ := hx
  have hl := h.1
  rw [List.length_append] at hl
  refine ⟨S'.drop S0.length, ?_⟩
  apply List.ext_getElem?
  intro i
  by_cases hi : i < S0.length
  · rw [List.getElem?_append_left hi, h.2 i (by simp; omega) (fun k => by have := hd i k; omega), List.getElem?_append_left hi]
  · rw [List.getElem?_append_right (by omega), List.getElem?_drop, show S0.length + (i - S0.length) = i by omega]
def idOf (v : V) (i : Nat) : Prop := ∃ ver o l, v = .msl i ver o l
def Lst (lo : Nat) (S : Store) (q : TypeId) (sz : Nat) (rows : List (List V)) (v : V) : Prop :=
  (v = .nilSl ∧ rows = []) ∨ ∃ c ver, lo ≤ c ∧ v = .msl c ver 0 rows.length ∧ S.obj? c ver = some (q, sz, rows)
section
variable {lo : Nat} {S S' : Store} {q : TypeId} {sz : Nat} {rows : List (List V)} {v : V}
theorem Lst.frm {D : Nat → Prop} (h : Lst lo S q sz rows v) (hf : Frm D S S') (hd : ∀ i, idOf v i → ¬ D i) : Lst lo S' q sz rows v := by
  rcases h with h | ⟨c, ver, h1, h2, h3⟩
  · exact .inl h
  · exact .inr ⟨c, ver, h1, h2, hf.obj h3 (hd c ⟨_, _, _, h2⟩)⟩
theorem Lst.lt (h : Lst lo S q sz rows v) {i : Nat} (hi : idOf v i) : i < S.length ∧ lo ≤ i := by
  obtain ⟨ver, o, l, rfl⟩ := hi
  rcases h with ⟨h, _⟩ | ⟨c, ver', h1, h2, h3⟩
  · cases h
  · cases h2
    exact ⟨obj_lt h3, h1⟩
theorem Lst.len (h : Lst lo S q sz rows v) (S1 : Store) : lenAV S1 v = some (.int .i64 (rows.length : Nat)) := by
  rcases h with ⟨rfl, rfl⟩ | ⟨c, ver, h1, rfl, h3⟩ <;> rfl
theorem Lst.cells (h : Lst lo S q sz rows v) : v.cells? = some [v] := by
  rcases h with ⟨rfl, rfl⟩ | ⟨c, ver, h1, rfl, h3⟩ <;> rfl
theorem Lst.app (h : Lst lo S q sz rows v) (hlo : lo ≤ S.length) {r : List V} {K : V → Store → Prop} (hl : rows.length ≤ 1000000)
    (k : ∀ v' S', Lst lo S' q sz (rows ++ [r]) v' → Frm (idOf v) S S' → (∀ i, idOf v' i → idOf v i ∨ S.length ≤ i) → K v' S') : appK q sz v (some (sz, [r])) S K := by
  rcases h with ⟨rfl, rfl⟩ | ⟨c, ver, h1, rfl, h3⟩
  · rw [app_nil]
    refine ⟨by unfold roomA; simp, k _ _ (.inr ⟨S.length, 0, hlo, by simp, ?_⟩) (Frm.add _ _ _) fun i ⟨ver, o, l, e⟩ => ?_⟩
    · rw [List.nil_append]
      exact ob_app0.trans ob_head
    · cases e
      exact .inr (Nat.le_refl _)
  · rw [app_msl, h3, appO_some]
    refine ⟨rfl, by unfold roomA; simp; omega, k _ _ (.inr ⟨c, ver + 1, h1, by simp, obj_set h3⟩) ((Frm.refl _ _).set (fun _ => ⟨_, _, _, rfl⟩) _) fun i ⟨ver', o, l, e⟩ => ?_⟩
    cases e
    exact .inl ⟨_, _, _, rfl⟩
end
end Go.Proofs.YtkdbghhdklfoiaaDoor
