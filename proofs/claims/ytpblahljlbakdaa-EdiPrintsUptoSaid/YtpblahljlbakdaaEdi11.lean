/- The reader: the walk through a line. -/
import Derived.Test.YtpblahljlbakdaaEdi10
namespace Go.Proofs.Ytpblahljlbakdaa
open Go Go.AL
set_option linter.unusedSimpArgs false

def shift {α : Type} (n : Nat) (p : α × Nat) : α × Nat := (p.1, p.2 + n)

/-- What a mark does. -/
def markF (els : List (List Txt)) (cur : Option (List Txt × Txt)) (m : UInt8) (r : Txt) : Option (List (List Txt)) × Nat :=
  match cur with
  | none => if m.toNat = 58 then (none, 0) else if m.toNat = 43 then shift 1 (mach els (some ([], [])) r) else (some els, 1)
  | some (comps, text) =>
    if m.toNat = 58 then shift 1 (mach els (some (comps ++ [text], [])) r)
    else if m.toNat = 43 then shift 1 (mach (els ++ [comps ++ [text]]) (some ([], [])) r)
    else (some (els ++ [comps ++ [text]]), 1)

def stepF (els : List (List Txt)) (cur : Option (List Txt × Txt)) (p : Option (Bool × UInt8) × Nat) (l : Txt) : Option (List (List Txt)) × Nat :=
  match p.1, cur with
  | none, none => (none, 0)
  | none, some _ => (none, p.2)
  | some (false, _), none => (none, 0)
  | some (false, d), some (comps, text) => shift p.2 (mach els (some (comps, text ++ [d])) (l.drop p.2))
  | some (true, m), cur => markF els cur m (l.drop 1)

theorem mach_step (els : List (List Txt)) (cur : Option (List Txt × Txt)) (c : UInt8) (r : Txt) : mach els cur (c :: r) = stepF els cur (nextF c r.head?) (c :: r) := by
  rw [mach.eq_def]
  by_cases h63 : c.toNat = 63
  · simp only [h63, if_true, nextF]
    cases r with
    | nil => cases cur <;> simp [stepF]
    | cons d r' =>
      simp only [List.head?_cons]
      cases hd : specC d <;> cases cur <;> simp [stepF, shift, hd]
  · simp only [h63, if_false, nextF]
    cases ho : oddC c
    · cases hs : specC c
      · cases cur <;> simp [stepF, shift]
      · cases cur <;> simp [stepF, shift, markF]
    · cases cur <;> simp [stepF]

theorem drop_head (s : Txt) (k : Nat) : (s.drop k).head? = s[k]? := by rw [List.head?_drop]

def rdO (s : Txt) (k : Nat) (o : V) : AL.Obj := ⟨0, some (.arr 63 3 [[.str s, .int .i64 k, o]])⟩

def LinePost (s : Txt) (k : Nat) (S : Store) (v : Nat) (ls : List Ln) (tag : Txt) (r : V) (S' : Store) : Prop :=
  match mach [] none (s.drop k) with
  | (none, m) => r = .bool false ∧ S' = S ++ [⟨0, some (.arr 63 3 [[.str s, .int .i64 (k + m : Nat), .msl (S.length + 1) v 0 (ls.length + 1)]])⟩, ⟨v, none⟩]
  | (some els, m) => r = .bool true ∧ S' = S ++ [⟨0, some (.arr 63 3 [[.str s, .int .i64 (k + m : Nat), .msl (S.length + 1) v 0 (ls.length + 1)]])⟩, ⟨v, some (.arr 35 2 (ls.map lnR ++ [lnR ⟨tag, els⟩]))⟩]
def LineEnd (s : Txt) (k : Nat) (S : Store) (v : Nat) (ls : List Ln) (tag : Txt) (r : V) (S' : Store) : Prop :=
  ∃ r1 S1, Fgt S' S1 ∧ Frz S' S1 r r1 ∧ S.length + 2 ≤ S1.length ∧ LinePost s k S v ls tag r1 S1

def NeatIn (S : Store) : Prop := ∀ (id ver : Nat) (e : TypeId) (sz : Nat) (rows : List (List V)), S[id]? = some ⟨ver, some (.arr e sz rows)⟩ → ∀ r ∈ rows, r.length = sz ∧ V.allUnder (S.length + 2) r = true

theorem rd_under (S : Store) (s : Txt) (k v n : Nat) : ∀ (e : TypeId) (sz : Nat) (rows : List (List V)), (some (Cont.arr 63 3 [[.str s, .int .i64 k, .msl (S.length + 1) v 0 n]])) = some (.arr e sz rows) → ∀ r ∈ rows, r.length = sz ∧ V.allUnder (S.length + 2) r = true := by
  intro e sz rows h r hr
  cases h
  simp only [List.mem_cons, List.not_mem_nil, or_false] at hr
  subst hr
  simp [V.allUnder, V.under]

theorem end_false {s : Txt} {k : Nat} {S T : Store} {v : Nat} {ls : List Ln} {tag : Txt} {m : Nat} {rows : List (List V)} (hn : NeatIn S) (hm : mach [] none (s.drop k) = (none, m)) :
    LineEnd s k S v ls tag (.bool false) (S ++ ⟨0, some (.arr 63 3 [[.str s, .int .i64 (k + m : Nat), .msl (S.length + 1) v 0 (ls.length + 1)]])⟩ :: ⟨v, some (.arr 35 2 rows)⟩ :: T) := by
  refine ⟨.bool false, S ++ [⟨0, some (.arr 63 3 [[.str s, .int .i64 (k + m : Nat), .msl (S.length + 1) v 0 (ls.length + 1)]])⟩, ⟨v, none⟩], fgt_two (o' := ⟨v, some (.arr 35 2 rows)⟩) (o1 := ⟨v, none⟩) hn (rd_under S s _ v _) rfl (fun t sz rows1 h => by cases h), .imm rfl, by simp, ?_⟩
  simp only [LinePost, hm, and_self]

/-- The elements' cell at the end of a line. -/
def Fro (S T : Store) (e : V) (els : List (List Txt)) : Prop := (els = [] ∧ e = .nilSl) ∨ ∃ j w cs B, e = .msl (S.length + (j + 2)) w 0 els.length ∧ T.obj? j w = some (40, 1, cs.map oneR) ∧ Elm S T B cs els

theorem imm_row {r : List V} : V.allImm r = true → ∀ (j : Nat) (v : V), r[j]? = some v → v.isImm = true := fun h j v hj => V.allImm_get h j v hj

theorem fro_frz {S T : Store} {b o o1 : AL.Obj} {e : V} {els : List (List Txt)} (h : Fro S T e els) : Frz (S ++ b :: o :: T) (S ++ [b, o1]) e (elV els) := by
  have hdead : ∀ j, dead (S ++ [b, o1]) (S.length + (j + 2)) := fun j x hx => by
    rw [List.getElem?_eq_none (by simp)] at hx
    cases hx
  have hob : ∀ j w, Store.obj? (S ++ b :: o :: T) (S.length + (j + 2)) w = T.obj? j w := fun j w => by rw [ob_app, ob_cons, ob_cons]
  rcases h with ⟨rfl, rfl⟩ | ⟨j, w, cs, B, rfl, ho, hl, hel⟩
  · exact .nil
  · refine .msl (hdead j) (by rw [hob]; exact ho) (.inl rfl) (by simp) (fun i r hi => ?_) (fun i r hi q x hq r' y hr' hy => ?_) (fun i r hi q x hq => ?_)
    · simp only [List.getElem?_map, Option.map_eq_some_iff] at hi
      obtain ⟨e', _, rfl⟩ := hi
      rfl
    · simp only [List.getElem?_map, Option.map_eq_some_iff] at hi
      obtain ⟨e', he', rfl⟩ := hi
      rw [Nat.zero_add] at hr'
      simp only [List.getElem?_map, Option.map_eq_some_iff] at hr'
      obtain ⟨c, hc, rfl⟩ := hr'
      match q, hq, hy with
      | 0, hq, hy =>
        simp [elR] at hq
        simp [oneR] at hy
        subst hq hy
        obtain ⟨j', w', _, rfl, ho'⟩ := hel i c e' hc he'
        refine .msl (hdead j') (by rw [hob]; exact ho') (.inl rfl) (by simp) (fun i r hi => ?_) (fun i r hi q x hq r' y hr' hy => ?_) (fun i r hi q x hq => ?_)
        · simp only [List.getElem?_map, Option.map_eq_some_iff] at hi
          obtain ⟨t, _, rfl⟩ := hi
          rfl
        · rw [Nat.zero_add] at hr'
          rw [hi] at hr'
          cases hr'
          rw [hq] at hy
          cases hy
          simp only [List.getElem?_map, Option.map_eq_some_iff] at hi
          obtain ⟨t, _, rfl⟩ := hi
          exact .imm (imm_row (r := cmR t) rfl q x hq)
        · simp only [List.getElem?_map, Option.map_eq_some_iff] at hi
          obtain ⟨t, _, rfl⟩ := hi
          exact imm_row (r := cmR t) rfl q x hq
      | q + 1, hq, hy => simp [elR] at hq
    · simp only [List.getElem?_map, Option.map_eq_some_iff] at hi
      obtain ⟨e', _, rfl⟩ := hi
      exact imm_row (r := elR e') rfl q x hq

theorem end_true {s : Txt} {k : Nat} {S T : Store} {v : Nat} {ls : List Ln} {tag : Txt} {m : Nat} {e : V} {els : List (List Txt)} (hn : NeatIn S) (hm : mach [] none (s.drop k) = (some els, m)) (he : Fro S T e els) :
    LineEnd s k S v ls tag (.bool true) (S ++ ⟨0, some (.arr 63 3 [[.str s, .int .i64 (k + m : Nat), .msl (S.length + 1) v 0 (ls.length + 1)]])⟩ :: ⟨v, some (.arr 35 2 (ls.map lnR ++ [[.str tag, e]]))⟩ :: T) := by
  refine ⟨.bool true, S ++ [⟨0, some (.arr 63 3 [[.str s, .int .i64 (k + m : Nat), .msl (S.length + 1) v 0 (ls.length + 1)]])⟩, ⟨v, some (.arr 35 2 (ls.map lnR ++ [lnR ⟨tag, els⟩]))⟩], fgt_two (o' := ⟨v, some (.arr 35 2 (ls.map lnR ++ [[.str tag, e]]))⟩) (o1 := ⟨v, some (.arr 35 2 (ls.map lnR ++ [lnR ⟨tag, els⟩]))⟩) hn (rd_under S s _ v _) rfl (fun t sz rows1 h => ?_), .imm rfl, by simp, ?_⟩
  · cases h
    refine ⟨_, rfl, by simp, fun i r hi => ?_, fun i r hi q x hq r' y hr' hy => ?_⟩
    · have := List.mem_of_getElem? hi
      simp only [List.mem_append, List.mem_map, List.mem_cons, List.not_mem_nil, or_false] at this
      rcases this with ⟨x, _, rfl⟩ | rfl <;> rfl
    · by_cases hlt : i < ls.length
      · rw [List.getElem?_append_left (by simpa using hlt)] at hi hr'
        rw [hi] at hr'
        cases hr'
        rw [hq] at hy
        cases hy
        simp only [List.getElem?_map, Option.map_eq_some_iff] at hi
        obtain ⟨t, _, rfl⟩ := hi
        exact .imm (imm_row (r := lnR t) rfl q x hq)
      · rw [List.getElem?_append_right (by simp; omega)] at hi hr'
        simp only [List.length_map] at hi hr'
        match hh : i - ls.length, hi, hr' with
        | 0, hi, hr' =>
          simp at hi hr'
          subst hi hr'
          match q, hq, hy with
          | 0, hq, hy => simp [lnR] at hq; simp at hy; subst hq hy; exact .imm rfl
          | 1, hq, hy => simp [lnR] at hq; simp at hy; subst hq hy; exact fro_frz he
          | q + 2, hq, hy => simp [lnR] at hq
        | n + 1, hi, hr' => simp at hi
  · simp only [LinePost, hm, and_self]

/-- A component has come to its end: the element under way has one more. -/
def Ended (S T : Store) (j w B : Nat) (els : List (List Txt)) (cs : List V) (comps : List Txt) (c : V) : Prop :=
  T.obj? j w = some (40, 1, cs.map oneR ++ [[c]]) ∧ Elm S T B cs els ∧ ∃ jc wc, B ≤ jc ∧ jc < T.length ∧ c = .msl (S.length + (jc + 2)) wc 0 comps.length ∧ T.obj? jc wc = some (9, 1, comps.map cmR)

theorem ended_new {S T : Store} {j w B : Nat} {els : List (List Txt)} {cs : List V} {c : V} (text : Txt) (ho : T.obj? j w = some (40, 1, cs.map oneR ++ [[c]])) (hel : Elm S T B cs els) (hB : B ≤ T.length) :
    Ended S (List.set (T ++ [⟨0, some (.arr 9 1 [[.str text]])⟩]) j ⟨w, some (.arr 40 1 (cs.map oneR ++ [[.msl (S.length + (T.length + 2)) 0 0 1]]))⟩) j w B els cs [text] (.msl (S.length + (T.length + 2)) 0 0 1) := by
  have h1 : Store.obj? (T ++ [⟨0, some (.arr 9 1 [[.str text]])⟩]) j w = some (40, 1, cs.map oneR ++ [[c]]) := Pres.push 40 T _ _ _ _ _ ho
  have h2 : Pres 9 (T ++ [⟨0, some (.arr 9 1 [[.str text]])⟩]) (List.set (T ++ [⟨0, some (.arr 9 1 [[.str text]])⟩]) j ⟨w, some (.arr 40 1 (cs.map oneR ++ [[.msl (S.length + (T.length + 2)) 0 0 1]]))⟩) := Pres.set h1 (by decide)
  exact ⟨obj_set h1, hel.pres ((Pres.push 9 T _).trans h2).b, T.length, 0, hB, by simp, rfl, h2 _ _ _ _ obj_push⟩

theorem ended_more {S T : Store} {j w B : Nat} {els : List (List Txt)} {cs : List V} {c : V} {comps : List Txt} (text : Txt) {j2 w2 : Nat} (ho : T.obj? j w = some (40, 1, cs.map oneR ++ [[c]])) (hel : Elm S T B cs els) (hj : B ≤ j2) (ho2 : T.obj? j2 w2 = some (9, 1, comps.map cmR)) :
    Ended S (List.set (List.set T j2 ⟨w2 + 1, some (.arr 9 1 (comps.map cmR ++ [[.str text]]))⟩) j ⟨w, some (.arr 40 1 (cs.map oneR ++ [[.msl (S.length + (j2 + 2)) (w2 + 1) 0 (comps.length + 1)]]))⟩) j w B els cs (comps ++ [text]) (.msl (S.length + (j2 + 2)) (w2 + 1) 0 (comps.length + 1)) := by
  have h1 : Store.obj? (List.set T j2 ⟨w2 + 1, some (.arr 9 1 (comps.map cmR ++ [[.str text]]))⟩) j w = some (40, 1, cs.map oneR ++ [[c]]) := Pres.set ho2 (by decide) _ _ _ _ ho
  have h2 : Pres 9 (List.set T j2 ⟨w2 + 1, some (.arr 9 1 (comps.map cmR ++ [[.str text]]))⟩) (List.set (List.set T j2 ⟨w2 + 1, some (.arr 9 1 (comps.map cmR ++ [[.str text]]))⟩) j ⟨w, some (.arr 40 1 (cs.map oneR ++ [[.msl (S.length + (j2 + 2)) (w2 + 1) 0 (comps.length + 1)]]))⟩) := Pres.set h1 (by decide)
  refine ⟨obj_set h1, hel.pres ((PresB.set hj).trans h2.b), j2, w2 + 1, hj, ?_, by simp, ?_⟩
  · have := obj_lt ho2
    simpa using this
  · have := h2 j2 (w2 + 1) 1 _ (obj_set ho2)
    rw [this]
    simp [cmR]

theorem Ended.colon {S T : Store} {j w B : Nat} {els : List (List Txt)} {cs : List V} {comps : List Txt} {c : V} (h : Ended S T j w B els cs comps c) : Mid S T els comps [] (.msl (S.length + (j + 2)) w 0 (els.length + 1)) .nilSl := by
  obtain ⟨h1, h2, jc, wc, h3, h4, h5, h6⟩ := h
  exact ⟨j, w, cs, c, B, rfl, h1, h2, by omega, .inr ⟨jc, wc, h3, h5, h6⟩, .inl ⟨rfl, rfl⟩⟩

theorem Ended.fin {S T : Store} {j w B : Nat} {els : List (List Txt)} {cs : List V} {comps : List Txt} {c : V} (h : Ended S T j w B els cs comps c) : Elm S T T.length (cs ++ [c]) (els ++ [comps]) := by
  obtain ⟨h1, h2, jc, wc, h3, h4, h5, h6⟩ := h
  exact (h2.mono (by omega)).snoc ⟨jc, wc, h4, h5, h6⟩

theorem Ended.quote {S T : Store} {j w B : Nat} {els : List (List Txt)} {cs : List V} {comps : List Txt} {c : V} (h : Ended S T j w B els cs comps c) : Fro S T (.msl (S.length + (j + 2)) w 0 (els.length + 1)) (els ++ [comps]) :=
  .inr ⟨j, w, cs ++ [c], T.length, by simp, by rw [h.1]; simp [oneR], h.fin⟩

theorem Ended.plus {S T : Store} {j w B : Nat} {els : List (List Txt)} {cs : List V} {comps : List Txt} {c : V} (h : Ended S T j w B els cs comps c) :
    Mid S (List.set T j ⟨w + 1, some (.arr 40 1 (cs.map oneR ++ [[c]] ++ [[.nilSl]]))⟩) (els ++ [comps]) [] [] (.msl (S.length + (j + 2)) (w + 1) 0 (els.length + 1 + 1)) .nilSl :=
  ⟨j, w + 1, cs ++ [c], .nilSl, T.length, by simp, by rw [obj_set h.1]; simp [oneR], h.fin.pres (Pres.set h.1 (by decide)).b, by simp, .inl ⟨rfl, rfl⟩, .inl ⟨rfl, rfl⟩⟩
end Go.Proofs.Ytpblahljlbakdaa
