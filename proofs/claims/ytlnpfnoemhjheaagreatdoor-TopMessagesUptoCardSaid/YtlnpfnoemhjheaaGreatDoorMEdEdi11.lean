/- The reader: the walk through a line. -/
import Derived.Test.YtlnpfnoemhjheaaGreatDoorMEdEdi8
namespace Go.Proofs.YtlnpfnoemhjheaaGreatDoor.Ed
open Go Go.AL
set_option linter.unusedSectionVars false
variable [Go.AL.Mode] [Go.AL.LooseM]
set_option linter.unusedSimpArgs false
set_option linter.unusedVariables false
def shift {α : Type} (n : Nat) (p : α × Nat) : α × Nat := (p.1, p.2 + n)
def markF (els : List (List Txt)) (cur : Option (List Txt × Txt)) (m : UInt8) (r : Txt) : Option (List (List Txt)) × Nat :=
  match cur with
  | none => if m.toNat = 58 then (none, 0) else if m.toNat = 43 then shift 1 (mach els (some ([], [])) r) else (some els, 1)
  | some (comps, text) =>
    if m.toNat = 58 then shift 1 (mach els (some (comps ++ [text], [])) r)
    else if m.toNat = 43 then shift 1 (mach (els ++ [comps ++ [text]]) (some ([], [])) r)
    else (some (els ++ [comps ++ [text]]), 1)
def stepF (els : List (List Txt)) (cur : Option (List Txt × Txt)) (p : Option (Bool × UInt8) × Nat) (l : Txt) : Option (List (List Txt)) × Nat :=
  match p.1, cur with
  | none, none => (none, 0)
  | none, some _ => (none, p.2)
  | some (false, _), none => (none, 0)
  | some (false, d), some (comps, text) => shift p.2 (mach els (some (comps, text ++ [d])) (l.drop p.2))
  | some (true, m), cur => markF els cur m (l.drop 1)
theorem mach_step (els : List (List Txt)) (cur : Option (List Txt × Txt)) (c : UInt8) (r : Txt) : mach els cur (c :: r) = stepF els cur (nextF c r.head?) (c :: r) := by
  rw [mach.eq_def]
  by_cases h63 : c.toNat = 63
  · simp only [h63, if_true, nextF]
    cases r with
    | nil => cases cur <;> simp [stepF]
    | cons d r' =>
      simp only [List.head?_cons]
      cases hd : specC d <;> cases cur <;> simp [stepF, shift, hd]
  · simp only [h63, if_false, nextF]
    cases ho : oddC c
    · cases hs : specC c
      · cases cur <;> simp [stepF, shift]
      · cases cur <;> simp [stepF, shift, markF]
    · cases cur <;> simp [stepF]
theorem drop_head (s : Txt) (k : Nat) : (s.drop k).head? = s[k]? := by rw [List.head?_drop]
def LinePost (s : Txt) (k : Nat) (S : Store) (v : Nat) (ls : List Ln) (tag : Txt) (r : V) (S' : Store) : Prop :=
  match mach [] none (s.drop k) with
  | (none, m) => r = .bool false ∧ S' = S ++ [⟨0, some (.arr 126 3 [[.str s, .int .i64 (k + m : Nat), .msl (S.length + 1) v 0 (ls.length + 1)]])⟩, ⟨v, none⟩]
  | (some els, m) => r = .bool true ∧ S' = S ++ [⟨0, some (.arr 126 3 [[.str s, .int .i64 (k + m : Nat), .msl (S.length + 1) v 0 (ls.length + 1)]])⟩, ⟨v, some (.arr 58 2 (ls.map lnR ++ [lnR ⟨tag, els⟩]))⟩]
def LineEnd (s : Txt) (k : Nat) (S : Store) (v : Nat) (ls : List Ln) (tag : Txt) (r : V) (S' : Store) : Prop :=
  ∃ r1 S1, Fgt S' S1 ∧ Frz S' S1 r r1 ∧ S.length + 2 ≤ S1.length ∧ LinePost s k S v ls tag r1 S1
theorem rd_under (S : Store) (s : Txt) (k v n : Nat) : ∀ (e : TypeId) (sz : Nat) (rows : List (List V)), (some (Cont.arr 126 3 [[.str s, .int .i64 k, .msl (S.length + 1) v 0 n]])) = some (.arr e sz rows) → ∀ r ∈ rows, r.length = sz ∧ V.allUnder (S.length + 2) r = true := by
  intro e sz rows h r hr
  cases h
  simp only [List.mem_cons, List.not_mem_nil, or_false] at hr
  subst hr
  simp [V.allUnder, V.under]
theorem end_false {s : Txt} {k : Nat} {S T : Store} {v : Nat} {ls : List Ln} {tag : Txt} {m : Nat} {rows : List (List V)} (hn : NeatIn S) (hm : mach [] none (s.drop k) = (none, m)) :
    LineEnd s k S v ls tag (.bool false) (S ++ ⟨0, some (.arr 126 3 [[.str s, .int .i64 (k + m : Nat), .msl (S.length + 1) v 0 (ls.length + 1)]])⟩ :: ⟨v, some (.arr 58 2 rows)⟩ :: T) := by
  refine ⟨.bool false, S ++ [⟨0, some (.arr 126 3 [[.str s, .int .i64 (k + m : Nat), .msl (S.length + 1) v 0 (ls.length + 1)]])⟩, ⟨v, none⟩], fgt_two (o' := ⟨v, some (.arr 58 2 rows)⟩) (o1 := ⟨v, none⟩) hn (rd_under S s _ v _) rfl (fun m h => by cases h) (fun m h => by cases h) (fun t sz rows1 h => by cases h), .imm rfl, by simp, ?_⟩
  simp only [LinePost, hm, and_self]
def Fro (S T : Store) (e : V) (els : List (List Txt)) : Prop := (els = [] ∧ e = .nilSl) ∨ ∃ j w cs B, e = .msl (S.length + (j + 2)) w 0 els.length ∧ T.obj? j w = some (62, 1, cs.map oneR) ∧ Elm S T B cs els
theorem imm_row {r : List V} : V.allImm r = true → ∀ (j : Nat) (v : V), r[j]? = some v → v.isImm = true := fun h j v hj => V.allImm_get h j v hj
theorem fro_frz {S T : Store} {b o o1 : AL.Obj} {e : V} {els : List (List Txt)} (h : Fro S T e els) : Frz (S ++ b :: o :: T) (S ++ [b, o1]) e (elV els) := by
  have hdead : ∀ j, dead (S ++ [b, o1]) (S.length + (j + 2)) := fun j x hx => by
    rw [List.getElem?_eq_none (by simp)] at hx
    cases hx
  have hob : ∀ j w, Store.obj? (S ++ b :: o :: T) (S.length + (j + 2)) w = T.obj? j w := fun j w => by rw [ob_app, ob_cons, ob_cons]
  rcases h with ⟨rfl, rfl⟩ | ⟨j, w, cs, B, rfl, ho, hl, hel⟩
  · exact .nil
  · refine .msl (hdead j) (by rw [hob]; exact ho) (.inl rfl) (by simp) (fun i r hi => ?_) (fun i r hi q x hq r' y hr' hy => ?_) (fun i r hi q x hq => ?_)
    · simp only [List.getElem?_map, Option.map_eq_some_iff] at hi
      obtain ⟨e', _, rfl⟩ := hi
      rfl
    · simp only [List.getElem?_map, Option.map_eq_some_iff] at hi
      obtain ⟨e', he', rfl⟩ := hi
      rw [Nat.zero_add] at hr'
      simp only [List.getElem?_map, Option.map_eq_some_iff] at hr'
      obtain ⟨c, hc, rfl⟩ := hr'
      match q, hq, hy with
      | 0, hq, hy =>
        simp [elR] at hq
        simp [oneR] at hy
        subst hq hy
        obtain ⟨j', w', _, rfl, ho'⟩ := hel i c e' hc he'
        refine .msl (hdead j') (by rw [hob]; exact ho') (.inl rfl) (by simp) (fun i r hi => ?_) (fun i r hi q x hq r' y hr' hy => ?_) (fun i r hi q x hq => ?_)
        · simp only [List.getElem?_map, Option.map_eq_some_iff] at hi
          obtain ⟨t, _, rfl⟩ := hi
          rfl
        · rw [Nat.zero_add] at hr'
          rw [hi] at hr'
          cases hr'
          rw [hq] at hy
          cases hy
          simp only [List.getElem?_map, Option.map_eq_some_iff] at hi
          obtain ⟨t, _, rfl⟩ := hi
          exact .imm (imm_row (r := cmR t) rfl q x hq)
        · simp only [List.getElem?_map, Option.map_eq_some_iff] at hi
          obtain ⟨t, _, rfl⟩ := hi
          exact imm_row (r := cmR t) rfl q x hq
      | q + 1, hq, hy => simp [elR] at hq
    · simp only [List.getElem?_map, Option.map_eq_some_iff] at hi
      obtain ⟨e', _, rfl⟩ := hi
      exact imm_row (r := elR e') rfl q x hq
theorem end_true {s : Txt} {k : Nat} {S T : Store} {v : Nat} {ls : List Ln} {tag : Txt} {m : Nat} {e : V} {els : List (List Txt)} (hn : NeatIn S) (hm : mach [] none (s.drop k) = (some els, m)) (he : Fro S T e els) :
    LineEnd s k S v ls tag (.bool true) (S ++ ⟨0, some (.arr 126 3 [[.str s, .int .i64 (k + m : Nat), .msl (S.length + 1) v 0 (ls.length + 1)]])⟩ :: ⟨v, some (.arr 58 2 (ls.map lnR ++ [[.str tag, e]]))⟩ :: T) := by
  refine ⟨.bool true, S ++ [⟨0, some (.arr 126 3 [[.str s, .int .i64 (k + m : Nat), .msl (S.length + 1) v 0 (ls.length + 1)]])⟩, ⟨v, some (.arr 58 2 (ls.map lnR ++ [lnR ⟨tag, els⟩]))⟩], fgt_two (o' := ⟨v, some (.arr 58 2 (ls.map lnR ++ [[.str tag, e]]))⟩) (o1 := ⟨v, some (.arr 58 2 (ls.map lnR ++ [lnR ⟨tag, els⟩]))⟩) hn (rd_under S s _ v _) rfl (fun m h => by cases h) (fun m h => by cases h) (fun t sz rows1 h => ?_), .imm rfl, by simp, ?_⟩
  · cases h
    refine ⟨_, rfl, by simp, fun i r hi => ?_, fun i r hi q x hq r' y hr' hy => ?_⟩
    · have := List.mem_of_getElem? hi
      simp only [List.mem_append, List.mem_map, List.mem_cons, List.not_mem_nil, or_false] at this
      rcases this with ⟨x, _, rfl⟩ | rfl <;> rfl
    · by_cases hlt : i < ls.length
      · rw [List.getElem?_append_left (by simpa using hlt)] at hi hr'
        rw [hi] at hr'
        cases hr'
        rw [hq] at hy
        cases hy
        simp only [List.getElem?_map, Option.map_eq_some_iff] at hi
        obtain ⟨t, _, rfl⟩ := hi
        exact .imm (imm_row (r := lnR t) rfl q x hq)
      · rw [List.getElem?_append_right (by simp; omega)] at hi hr'
        simp only [List.length_map] at hi hr'
        match hh : i - ls.length, hi, hr' with
        | 0, hi, hr' =>
          simp at hi hr'
          subst hi hr'
          match q, hq, hy with
          | 0, hq, hy => simp [lnR] at hq; simp at hy; subst hq hy; exact .imm rfl
          | 1, hq, hy => simp [lnR] at hq; simp at hy; subst hq hy; exact fro_frz he
          | q + 2, hq, hy => simp [lnR] at hq
        | n + 1, hi, hr' => simp at hi
  · simp only [LinePost, hm, and_self]
def Ended (S T : Store) (j w B : Nat) (els : List (List Txt)) (cs : List V) (comps : List Txt) (c : V) : Prop :=
  T.obj? j w = some (62, 1, cs.map oneR ++ [[c]]) ∧ Elm S T B cs els ∧ ∃ jc wc, B ≤ jc ∧ jc < T.length ∧ c = .msl (S.length + (jc + 2)) wc 0 comps.length ∧ T.obj? jc wc = some (9, 1, comps.map cmR)
theorem ended_new {S T : Store} {j w B : Nat} {els : List (List Txt)} {cs : List V} {c : V} (text : Txt) (ho : T.obj? j w = some (62, 1, cs.map oneR ++ [[c]])) (hel : Elm S T B cs els) (hB : B ≤ T.length) :
    Ended S (List.set (T ++ [⟨0, some (.arr 9 1 [[.str text]])⟩]) j ⟨w, some (.arr 62 1 (cs.map oneR ++ [[.msl (S.length + (T.length + 2)) 0 0 1]]))⟩) j w B els cs [text] (.msl (S.length + (T.length + 2)) 0 0 1) := by
  have h1 : Store.obj? (T ++ [⟨0, some (.arr 9 1 [[.str text]])⟩]) j w = some (62, 1, cs.map oneR ++ [[c]]) := Pres.push 62 T _ _ _ _ _ ho
  have h2 : Pres 9 (T ++ [⟨0, some (.arr 9 1 [[.str text]])⟩]) (List.set (T ++ [⟨0, some (.arr 9 1 [[.str text]])⟩]) j ⟨w, some (.arr 62 1 (cs.map oneR ++ [[.msl (S.length + (T.length + 2)) 0 0 1]]))⟩) := Pres.set h1 (by decide)
  exact ⟨obj_set h1, hel.pres ((Pres.push 9 T _).trans h2).b, T.length, 0, hB, by simp, rfl, h2 _ _ _ _ obj_push⟩
theorem ended_more {S T : Store} {j w B : Nat} {els : List (List Txt)} {cs : List V} {c : V} {comps : List Txt} (text : Txt) {j2 w2 : Nat} (ho : T.obj? j w = some (62, 1, cs.map oneR ++ [[c]])) (hel : Elm S T B cs els) (hj : B ≤ j2) (ho2 : T.obj? j2 w2 = some (9, 1, comps.map cmR)) :
    Ended S (List.set (List.set T j2 ⟨w2 + 1, some (.arr 9 1 (comps.map cmR ++ [[.str text]]))⟩) j ⟨w, some (.arr 62 1 (cs.map oneR ++ [[.msl (S.length + (j2 + 2)) (w2 + 1) 0 (comps.length + 1)]]))⟩) j w B els cs (comps ++ [text]) (.msl (S.length + (j2 + 2)) (w2 + 1) 0 (comps.length + 1)) := by
  have h1 : Store.obj? (List.set T j2 ⟨w2 + 1, some (.arr 9 1 (comps.map cmR ++ [[.str text]]))⟩) j w = some (62, 1, cs.map oneR ++ [[c]]) := Pres.set ho2 (by decide) _ _ _ _ ho
  have h2 : Pres 9 (List.set T j2 ⟨w2 + 1, some (.arr 9 1 (comps.map cmR ++ [[.str text]]))⟩) (List.set (List.set T j2 ⟨w2 + 1, some (.arr 9 1 (comps.map cmR ++ [[.str text]]))⟩) j ⟨w, some (.arr 62 1 (cs.map oneR ++ [[.msl (S.length + (j2 + 2)) (w2 + 1) 0 (comps.length + 1)]]))⟩) := Pres.set h1 (by decide)
  refine ⟨obj_set h1, hel.pres ((PresB.set hj).trans h2.b), j2, w2 + 1, hj, ?_, by simp, ?_⟩
  · have := obj_lt ho2
    simpa using this
  · have := h2 j2 (w2 + 1) 1 _ (obj_set ho2)
    rw [this]
    simp [cmR]
theorem Ended.colon {S T : Store} {j w B : Nat} {els : List (List Txt)} {cs : List V} {comps : List Txt} {c : V} (h : Ended S T j w B els cs comps c) : Mid S T els comps [] (.msl (S.length + (j + 2)) w 0 (els.length + 1)) .nilSl := by
  obtain ⟨h1, h2, jc, wc, h3, h4, h5, h6⟩ := h
  exact ⟨j, w, cs, c, B, rfl, h1, h2, by omega, .inr ⟨jc, wc, h3, h5, h6⟩, .inl ⟨rfl, rfl⟩⟩
theorem Ended.fin {S T : Store} {j w B : Nat} {els : List (List Txt)} {cs : List V} {comps : List Txt} {c : V} (h : Ended S T j w B els cs comps c) : Elm S T T.length (cs ++ [c]) (els ++ [comps]) := by
  obtain ⟨h1, h2, jc, wc, h3, h4, h5, h6⟩ := h
  exact (h2.mono (by omega)).snoc ⟨jc, wc, h4, h5, h6⟩
theorem Ended.quote {S T : Store} {j w B : Nat} {els : List (List Txt)} {cs : List V} {comps : List Txt} {c : V} (h : Ended S T j w B els cs comps c) : Fro S T (.msl (S.length + (j + 2)) w 0 (els.length + 1)) (els ++ [comps]) :=
  .inr ⟨j, w, cs ++ [c], T.length, by simp, by rw [h.1]; simp [oneR], h.fin⟩
theorem Ended.plus {S T : Store} {j w B : Nat} {els : List (List Txt)} {cs : List V} {comps : List Txt} {c : V} (h : Ended S T j w B els cs comps c) :
    Mid S (List.set T j ⟨w + 1, some (.arr 62 1 (cs.map oneR ++ [[c]] ++ [[.nilSl]]))⟩) (els ++ [comps]) [] [] (.msl (S.length + (j + 2)) (w + 1) 0 (els.length + 1 + 1)) .nilSl :=
  ⟨j, w + 1, cs ++ [c], .nilSl, T.length, by simp, by rw [obj_set h.1]; simp [oneR], h.fin.pres (Pres.set h.1 (by decide)).b, by simp, .inl ⟨rfl, rfl⟩, .inl ⟨rfl, rfl⟩⟩
end Go.Proofs.YtlnpfnoemhjheaaGreatDoor.Ed
/- The reader: the walk through a line, done. -/
namespace Go.Proofs.YtlnpfnoemhjheaaGreatDoor.Ed
open Go Go.AL
set_option linter.unusedSectionVars false
variable [Go.AL.Mode] [Go.AL.LooseM]
set_option linter.unusedSimpArgs false
set_option linter.unusedVariables false
theorem len_two {S : Store} {a b : AL.Obj} : (S ++ [a, b]).length = S.length + 2 := by simp
theorem neatIn_of {S : Store} {a b : AL.Obj} (h : Neat (S ++ [a, b])) : NeatIn S := by
  refine ⟨fun id ver e sz rows hs r hr => ?_, fun id ver m hs => ?_⟩
  · have hlt := (List.getElem?_eq_some_iff.1 hs).1
    have := h.1 id ver e sz rows (by rw [List.getElem?_append_left hlt]; exact hs) r hr
    rw [len_two] at this
    exact this
  · have hlt := (List.getElem?_eq_some_iff.1 hs).1
    have := h.2 id ver m (by rw [List.getElem?_append_left hlt]; exact hs)
    rw [len_two] at this
    exact this
def curLen : Option (List Txt × Txt) → Nat
  | none => 0
  | some (a, b) => a.length + b.length
theorem nextF_mark {c : UInt8} {r : Option UInt8} {b : UInt8} {n : Nat} (h : nextF c r = (some (true, b), n)) : n = 1 ∧ (b.toNat = 43 ∨ b.toNat = 58 ∨ b.toNat = 39) := by
  unfold nextF at h
  split at h
  · split at h
    · cases h
    · split at h <;> cases h
  · rename_i h63
    split at h
    · cases h
    · split at h
      · rename_i hs
        cases h
        simp only [specC, Bool.or_eq_true, decide_eq_true_eq] at hs
        exact ⟨rfl, by omega⟩
      · cases h
theorem nextF_letter {c : UInt8} {r : Option UInt8} {b : UInt8} {n : Nat} (h : nextF c r = (some (false, b), n)) : n = 1 ∨ (n = 2 ∧ ∃ d, r = some d) := by
  unfold nextF at h
  split at h
  · split at h
    · cases h
    · split at h
      · cases h; exact .inr ⟨rfl, _, rfl⟩
      · cases h
  · split at h
    · cases h
    · split at h
      · cases h
      · cases h; exact .inl rfl
set_option maxHeartbeats 1000000 in
set_option maxRecDepth 20000 in
theorem line_A (s : Txt) (k : Nat) (S : Store) (v : Nat) (ls : List Ln) (tag : Txt) (hs : s.length ≤ 65536) (hk : k ≤ s.length) (hr : ls.length ≤ 65536) :
    CallA Tryz.prog 61 [.ptr S.length 0 0 0] (S ++ [⟨0, some (.arr 126 3 [[.str s, .int .i64 k, .msl (S.length + 1) v 0 (ls.length + 1)]])⟩, ⟨v, some (.arr 58 2 (ls.map lnR ++ [[.str tag, .nilSl]]))⟩]) (LinePost s k S v ls tag) := by
  refine CallA.withNeat Tryz.func61 c8038 fun hn => ?_
  refine CallA.fin Tryz.func61 c8038 (Nat.le_of_ble_eq_true rfl) fun σ hσ => ?_
  have hn := neatIn_of hn
  simp only [len_two]
  change wpA Tryz.prog a8038.N σ a8038.code (retK a8038.res (LineEnd s k S v ls tag)) _ _
  have hrow : ∀ (x : List V), (ls.map lnR ++ [x])[ls.length]? = some x := fun x => by rw [List.getElem?_append_right (by simp)]; simp
  have hset : ∀ (x y : List V), (ls.map lnR ++ [x]).set ls.length y = ls.map lnR ++ [y] := fun x y => by rw [List.set_append_right _ _ (by simp)]; simp
  have e0 : (((ls.length + 1 : Nat) : Int) - 1).toNat = ls.length := by omega
  simp (disch := first | omega | (simp only [lenT]; omega)) only [a8038, ob_app, ob_app0, ob_cons, ob_head, se_app, se_app0, se_cons, se_head, List.length_append, List.length_cons, List.length_nil, wrap_i64, hrow, e0, ↓evPre, ↓evPreW, evPost, evPostW, evR, evU, seval]
  refine loopA (ι := Nat × Store × V × V × List (List Txt) × Option (List Txt × Txt)) (fun i => [(0, .ptr S.length 0 0 0), (3, .ptr (S.length + 1) v ls.length 0), (4, i.2.2.2.1)])
    (fun i => S ++ ⟨0, some (.arr 126 3 [[.str s, .int .i64 (k + i.1 : Nat), .msl (S.length + 1) v 0 (ls.length + 1)]])⟩ :: ⟨v, some (.arr 58 2 (ls.map lnR ++ [[.str tag, i.2.2.1]]))⟩ :: i.2.1)
    (fun i => k + i.1 ≤ s.length ∧ i.2.2.2.2.1.length + curLen i.2.2.2.2.2 ≤ i.1 ∧ Sta S i.2.1 i.2.2.2.2.1 i.2.2.2.2.2 i.2.2.1 i.2.2.2.1 ∧ shift i.1 (mach i.2.2.2.2.1 i.2.2.2.2.2 (s.drop (k + i.1))) = mach [] none (s.drop k))
    (fun i => s.length - (k + i.1)) (0, [], .nilSl, .nilSl, [], none) ⟨by simp only; omega, by simp [curLen], ⟨rfl, rfl, rfl⟩, by simp [shift]⟩ ?_ rfl ?_
  · simp only [↓evPre, ↓evPreW, evPost, evPostW, evR, evU, seval]
  · rintro ⟨d, T, e, tx, els, cur⟩ ⟨hkd, hsz, hst, hfin⟩
    simp only at hkd hsz hst hfin ⊢
    cases hc : s[k + d]? with
    | none =>
      have hkl : ¬ ((k + d : Nat) : Int) < (s.length : Int) := by have := List.getElem?_eq_none_iff.1 hc; omega
      rw [show s.drop (k + d) = [] from List.drop_eq_nil_of_le (by have := List.getElem?_eq_none_iff.1 hc; omega), mach] at hfin
      simp (disch := first | omega | (simp only [lenT]; omega)) only [hkl, wrap_i64, ob_app, ob_app0, ob_cons, ob_head, hrow, ↓evPre, ↓evPreW, evPost, evPostW, evR, evU, seval]
      refine end_false hn ?_
      rw [← hfin]
      simp [shift]
    | some c =>
      have hlt : ((k + d : Nat) : Int) < (s.length : Int) := by have := (List.getElem?_eq_some_iff.1 hc).1; omega
      rw [drop_cons hc, mach_step, ← drop_cons hc, drop_head] at hfin
      have hnx := next_A s (k + d) c (S ++ ⟨0, some (.arr 126 3 [[.str s, .int .i64 (k + d : Nat), .msl (S.length + 1) v 0 (ls.length + 1)]])⟩ :: ⟨v, some (.arr 58 2 (ls.map lnR ++ [[.str tag, e]]))⟩ :: T) (by omega) hc
      simp (disch := first | omega | (simp only [lenT]; omega)) only [hlt, hc, wrap_i64, ob_app, ob_app0, ob_cons, ob_head, hrow, ↓evPre, ↓evPreW, evPost, evPostW, evR, evU, seval]
      refine hnx.then ?_
      generalize hp : nextF c s[k + d + 1]? = p at hfin ⊢
      obtain ⟨pt, n⟩ := p
      have hn2 : n ≤ 2 := by
        have : (nextF c s[k + d + 1]?).2 ≤ 2 := by unfold nextF; split <;> (try split) <;> (try split) <;> simp
        rw [hp] at this
        exact this
      simp only [stepF] at hfin
      simp only at hnx ⊢
      cases cur with
      | none =>
        obtain ⟨rfl, rfl, rfl⟩ := hst
        match pt, hfin with
        | none, hfin =>
          simp (disch := first | omega | (simp only [lenT]; omega)) only [partV, wrap_i64, ob_app, ob_app0, ob_cons, ob_head, hrow, ↓evPre, ↓evPreW, evPost, evPostW, evR, evU, seval]
          exact end_false hn (by rw [← hfin]; simp [shift])
        | some (false, b), hfin =>
          simp (disch := first | omega | (simp only [lenT]; omega)) only [partV, wrap_i64, ob_app, ob_app0, ob_cons, ob_head, hrow, ↓evPre, ↓evPreW, evPost, evPostW, evR, evU, seval]
          exact end_false hn (by rw [← hfin]; simp [shift])
        | some (true, b), hfin =>
          obtain ⟨rfl, hb⟩ := nextF_mark hp
          have hlen1 : ((k + d : Nat) : Int) + ((1 : Nat) : Int) = ((k + (d + 1) : Nat) : Int) := by omega
          rw [List.drop_drop] at hfin
          rcases hb with hb | hb | hb
          · have hbi : (b.toNat : Int) = 43 := by omega
            simp only [markF, hb] at hfin
            simp (disch := first | omega | (simp only [lenT]; omega)) only [partV, hbi, wrap_i64, ob_app, ob_app0, ob_cons, ob_head, hrow, hset, se_app, se_app0, se_cons, se_head, ap_app, le_app, List.cons_append, List.nil_append, List.length_cons, List.length_nil, ↓evPre, ↓evPreW, evPost, evPostW, evR, evU, seval]
            refine ⟨by unfold roomA; omega, (d + 1, T ++ [⟨0, some (.arr 62 1 [[.nilSl]])⟩], .msl (S.length + (T.length + 2)) 0 0 1, .nilSl, [], some ([], [])), ⟨by simp only; omega, by simp [curLen], ?_, ?_⟩, by simp only; omega, rfl, rfl⟩
            · exact ⟨T.length, 0, [], .nilSl, 0, rfl, obj_push, ⟨rfl, fun i v x hv => by simp at hv⟩, Nat.zero_le _, .inl ⟨rfl, rfl⟩, .inl ⟨rfl, rfl⟩⟩
            · simp only
              rw [← hfin]
              simp [shift, Nat.add_assoc, Nat.add_comm]
          · have hbi : (b.toNat : Int) = 58 := by omega
            simp only [markF, hb, if_true] at hfin
            simp (disch := first | omega | (simp only [lenT]; omega)) only [partV, hbi, wrap_i64, ob_app, ob_app0, ob_cons, ob_head, hrow, ↓evPre, ↓evPreW, evPost, evPostW, evR, evU, seval]
            exact end_false hn (by rw [← hfin]; simp [shift])
          · have hbi : (b.toNat : Int) = 39 := by omega
            simp only [markF, hb] at hfin
            simp (disch := first | omega | (simp only [lenT]; omega)) only [partV, hbi, wrap_i64, ob_app, ob_app0, ob_cons, ob_head, hrow, hset, se_app, se_app0, se_cons, se_head, ap_app, le_app, List.cons_append, List.nil_append, List.length_cons, List.length_nil, ↓evPre, ↓evPreW, evPost, evPostW, evR, evU, seval]
            exact end_true (m := d + 1) hn (by rw [← hfin]; simp [shift, Nat.add_comm]) (.inl ⟨rfl, rfl⟩)
      | some ct =>
        obtain ⟨comps, text⟩ := ct
        obtain ⟨j, w, cs, c0, B, rfl, ho, hel, hB, hcur, htx⟩ := hst
        have hcast : ((k + d : Nat) : Int) + (n : Int) = ((k + (d + n) : Nat) : Int) := by omega
        have hgt : (0 : Int) < ((els.length + 1 : Nat) : Int) := by omega
        match pt, hfin with
        | none, hfin =>
          simp (disch := first | omega | (simp only [lenT]; omega)) only [partV, wrap_i64, hcast, hgt, decide_true, ob_app, ob_app0, ob_cons, ob_head, hrow, hset, se_app, se_app0, se_cons, se_head, ho, ↓evPre, ↓evPreW, evPost, evPostW, evR, evU, seval]
          refine end_false (m := d + n) hn ?_
          rw [← hfin]
          simp [shift, Nat.add_comm]
        | some (false, b), hfin =>
          have hnl : 0 < n ∧ k + d + n ≤ s.length := by
            have := (List.getElem?_eq_some_iff.1 hc).1
            rcases nextF_letter hp with rfl | ⟨rfl, x, hx⟩
            · omega
            · have := (List.getElem?_eq_some_iff.1 hx).1
              omega
          simp only [curLen] at hsz
          have hfin2 : shift (d + n) (mach els (some (comps, text ++ [b])) (s.drop (k + (d + n)))) = mach [] none (s.drop k) := by
            rw [← hfin, List.drop_drop, Nat.add_assoc]
            simp [shift, Nat.add_assoc, Nat.add_comm n d]
          rcases htx with ⟨rfl, rfl⟩ | ⟨j3, w3, rfl, ho3⟩
          · simp (disch := first | omega | (simp only [lenT]; omega)) only [partV, wrap_i64, hcast, hgt, decide_true, ob_app, ob_app0, ob_cons, ob_head, hrow, hset, se_app, se_app0, se_cons, se_head, ap_app, le_app, List.cons_append, List.nil_append, List.length_cons, List.length_nil, ho, ↓evPre, ↓evPreW, evPost, evPostW, evR, evU, seval]
            refine ⟨by unfold roomA; omega, (d + n, T ++ [⟨0, some (.arr 5 1 [[.int .u8 b.toNat]])⟩], _, .msl (S.length + (T.length + 2)) 0 0 1, els, some (comps, [b])), ⟨by simp only; omega, by simp [curLen] at hsz ⊢; omega, ?_, by simpa using hfin2⟩, by simp only; omega, rfl, rfl⟩
            exact ⟨j, w, cs, c0, B, rfl, Pres.push 62 T _ _ _ _ _ ho, hel.pres (Pres.push 9 T _).b, by simp; omega, hcur.pres (Pres.push 9 T _), .inr ⟨T.length, 0, rfl, obj_push⟩⟩
          · simp (disch := first | omega | (simp only [lenT]; omega)) only [partV, wrap_i64, hcast, hgt, decide_true, ob_app, ob_app0, ob_cons, ob_head, hrow, hset, se_app, se_app0, se_cons, se_head, ap_app, le_app, List.cons_append, List.nil_append, List.length_cons, List.length_nil, ho, ho3, ↓evPre, ↓evPreW, evPost, evPostW, evR, evU, seval]
            refine ⟨byteRows_len _, by unfold roomA; omega, (d + n, T.set j3 ⟨w3 + 1, some (.arr 5 1 (byteRows (text ++ [b])))⟩, .msl (S.length + (j + 2)) w 0 (els.length + 1), .msl (S.length + (j3 + 2)) (w3 + 1) 0 (text.length + 1), els, some (comps, text ++ [b])), ⟨by simp only; omega, by simp only [curLen, List.length_append, List.length_cons, List.length_nil]; omega, ?_, hfin2⟩, by simp only; omega, rfl, ?_⟩
            · exact ⟨j, w, cs, c0, B, rfl, Pres.set ho3 (by decide) _ _ _ _ ho, hel.pres (Pres.set ho3 (by decide)).b, by simpa using hB, hcur.pres (Pres.set ho3 (by decide)), .inr ⟨j3, w3 + 1, by simp, obj_set ho3⟩⟩
            · simp only
              rw [byteRows_app]
              rfl
        | some (true, b), hfin =>
          obtain ⟨rfl, hb⟩ := nextF_mark hp
          simp only [curLen] at hsz
          have hcast1 : ((k + d : Nat) : Int) + ((1 : Nat) : Int) = ((k + (d + 1) : Nat) : Int) := by omega
          rw [List.drop_drop] at hfin
          have e1 : (((els.length + 1 : Nat) : Int) - 1).toNat = els.length := by omega
          have hcl : (cs.map oneR).length = els.length := by rw [List.length_map, hel.1]
          have hrow2 : ∀ (x : List V), (cs.map oneR ++ [x])[els.length]? = some x := fun x => by rw [List.getElem?_append_right (by omega), hcl]; simp
          have hset2 : ∀ (x y : List V), (cs.map oneR ++ [x]).set els.length y = cs.map oneR ++ [y] := fun x y => by rw [List.set_append_right _ _ (by omega), hcl]; simp
          have htext : TxE S T tx text := htx
          have hb2 : b2sV (S ++ ⟨0, some (.arr 126 3 [[.str s, .int .i64 (k + d : Nat), .msl (S.length + 1) v 0 (ls.length + 1)]])⟩ :: ⟨v, some (.arr 58 2 (ls.map lnR ++ [[.str tag, .msl (S.length + (j + 2)) w 0 (els.length + 1)]]))⟩ :: T) tx = some (.str text) := by
            rcases htext with ⟨rfl, rfl⟩ | ⟨j3, w3, rfl, ho3⟩
            · exact b2s_nil
            · rw [b2s_msl, ob_app, ob_cons, ob_cons, ho3]
              exact b2sO_some rfl
          rcases hcur with ⟨rfl, rfl⟩ | ⟨j2, w2, hj2, rfl, ho2⟩
          · have hoP : ∀ o, Store.obj? (T ++ [o]) j w = some (62, 1, cs.map oneR ++ [[V.nilSl]]) := fun o => Pres.push 62 T o _ _ _ _ ho
            have hoS : ∀ (o : AL.Obj) (rs : List (List V)), Store.obj? ((T ++ [o]).set j ⟨w, some (.arr 62 1 rs)⟩) j w = some (62, 1, rs) := fun o rs => obj_set (hoP o)
            rcases hb with hb | hb | hb
            · have hbi : (b.toNat : Int) = 43 := by omega
              simp only [markF, hb] at hfin
              simp (disch := first | omega | (simp only [lenT]; omega)) only [partV, hbi, hb2, hcast1, hgt, e1, hrow2, hset2, hoP, hoS, ho, decide_true, wrap_i64, ob_app, ob_app0, ob_cons, ob_head, hrow, hset, se_app, se_app0, se_cons, se_head, ap_app, le_app, List.cons_append, List.nil_append, List.length_cons, List.length_nil, ↓evPre, ↓evPreW, evPost, evPostW, evR, evU, seval]
              refine ⟨by unfold roomA; omega, by simp [hel.1], by unfold roomA; omega, (d + 1, _, _, .nilSl, els ++ [[text]], some ([], [])), ⟨by simp only; omega, by simp [curLen]; omega, (ended_new text ho hel hB).plus, ?_⟩, by simp only; omega, rfl, rfl⟩
              · simp only
                rw [← hfin]
                simp [shift, Nat.add_assoc, Nat.add_comm]
            · have hbi : (b.toNat : Int) = 58 := by omega
              simp only [markF, hb, if_true] at hfin
              simp (disch := first | omega | (simp only [lenT]; omega)) only [partV, hbi, hb2, hcast1, hgt, e1, hrow2, hset2, hoP, hoS, ho, decide_true, wrap_i64, ob_app, ob_app0, ob_cons, ob_head, hrow, hset, se_app, se_app0, se_cons, se_head, ap_app, le_app, List.cons_append, List.nil_append, List.length_cons, List.length_nil, ↓evPre, ↓evPreW, evPost, evPostW, evR, evU, seval]
              refine ⟨by unfold roomA; omega, (d + 1, _, _, .nilSl, els, some ([text], [])), ⟨by simp only; omega, by simp [curLen]; omega, (ended_new text ho hel hB).colon, ?_⟩, by simp only; omega, rfl, rfl⟩
              · simp only
                rw [← hfin]
                simp [shift, Nat.add_assoc, Nat.add_comm]
            · have hbi : (b.toNat : Int) = 39 := by omega
              simp only [markF, hb] at hfin
              simp (disch := first | omega | (simp only [lenT]; omega)) only [partV, hbi, hb2, hcast1, hgt, e1, hrow2, hset2, hoP, hoS, ho, decide_true, wrap_i64, ob_app, ob_app0, ob_cons, ob_head, hrow, hset, se_app, se_app0, se_cons, se_head, ap_app, le_app, List.cons_append, List.nil_append, List.length_cons, List.length_nil, ↓evPre, ↓evPreW, evPost, evPostW, evR, evU, seval]
              refine ⟨by unfold roomA; omega, ?_⟩
              exact end_true (m := d + 1) hn (by rw [← hfin]; simp [shift, Nat.add_comm]) (ended_new text ho hel hB).quote
          · have hoP : ∀ rs, Store.obj? (List.set T j2 ⟨w2 + 1, some (.arr 9 1 rs)⟩) j w = some (62, 1, cs.map oneR ++ [[V.msl (S.length + (j2 + 2)) w2 0 comps.length]]) := fun rs => Pres.set ho2 (by decide) _ _ _ _ ho
            have hoS : ∀ (rs rs2 : List (List V)), Store.obj? ((List.set T j2 ⟨w2 + 1, some (.arr 9 1 rs)⟩).set j ⟨w, some (.arr 62 1 rs2)⟩) j w = some (62, 1, rs2) := fun rs rs2 => obj_set (hoP rs)
            rcases hb with hb | hb | hb
            · have hbi : (b.toNat : Int) = 43 := by omega
              simp only [markF, hb] at hfin
              simp (disch := first | omega | (simp only [lenT]; omega)) only [partV, hbi, hb2, hcast1, hgt, e1, hrow2, hset2, hoP, hoS, ho2, ho, decide_true, wrap_i64, ob_app, ob_app0, ob_cons, ob_head, hrow, hset, se_app, se_app0, se_cons, se_head, ap_app, le_app, List.cons_append, List.nil_append, List.length_cons, List.length_nil, ↓evPre, ↓evPreW, evPost, evPostW, evR, evU, seval]
              refine ⟨by unfold roomA; omega, by simp [hel.1], by unfold roomA; omega, (d + 1, _, _, .nilSl, els ++ [comps ++ [text]], some ([], [])), ⟨by simp only; omega, by simp [curLen]; omega, (ended_more text ho hel hj2 ho2).plus, ?_⟩, by simp only; omega, rfl, rfl⟩
              · simp only
                rw [← hfin]
                simp [shift, Nat.add_assoc, Nat.add_comm]
            · have hbi : (b.toNat : Int) = 58 := by omega
              simp only [markF, hb, if_true] at hfin
              simp (disch := first | omega | (simp only [lenT]; omega)) only [partV, hbi, hb2, hcast1, hgt, e1, hrow2, hset2, hoP, hoS, ho2, ho, decide_true, wrap_i64, ob_app, ob_app0, ob_cons, ob_head, hrow, hset, se_app, se_app0, se_cons, se_head, ap_app, le_app, List.cons_append, List.nil_append, List.length_cons, List.length_nil, ↓evPre, ↓evPreW, evPost, evPostW, evR, evU, seval]
              refine ⟨by unfold roomA; omega, (d + 1, _, _, .nilSl, els, some (comps ++ [text], [])), ⟨by simp only; omega, by simp [curLen]; omega, (ended_more text ho hel hj2 ho2).colon, ?_⟩, by simp only; omega, rfl, rfl⟩
              · simp only
                rw [← hfin]
                simp [shift, Nat.add_assoc, Nat.add_comm]
            · have hbi : (b.toNat : Int) = 39 := by omega
              simp only [markF, hb] at hfin
              simp (disch := first | omega | (simp only [lenT]; omega)) only [partV, hbi, hb2, hcast1, hgt, e1, hrow2, hset2, hoP, hoS, ho2, ho, decide_true, wrap_i64, ob_app, ob_app0, ob_cons, ob_head, hrow, hset, se_app, se_app0, se_cons, se_head, ap_app, le_app, List.cons_append, List.nil_append, List.length_cons, List.length_nil, ↓evPre, ↓evPreW, evPost, evPostW, evR, evU, seval]
              refine ⟨by unfold roomA; omega, ?_⟩
              exact end_true (m := d + 1) hn (by rw [← hfin]; simp [shift, Nat.add_comm]) (ended_more text ho hel hj2 ho2).quote
end Go.Proofs.YtlnpfnoemhjheaaGreatDoor.Ed
