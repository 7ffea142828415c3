/- text.cut: a line is split at the blanks that are not quoted: walked in memory. -/
import Derived.Test.YtkdbghhdklfoiaaDoorSFa4
import Derived.Lib.OthersKept
import Derived.OwnWalk
import Derived.Below
import Derived.LoopTactic
import Derived.Laws.Small
import Derived.Laws.BytesString
import Derived.Laws.AppendOwn
import Derived.Scope
import Derived.FnLit
import Derived.WalkKit
import Derived.WalkMore
import Derived.BigCall
import Derived.BigGuard
import Derived.BigFrame
namespace Go.Proofs.YtkdbghhdklfoiaaDoor
open Go Go.AL Go.RowKit Go.Lib
set_option linter.unusedSectionVars false
variable [Go.AL.Mode] [Go.AL.LooseM]
set_option linter.unusedSimpArgs false
set_option linter.unusedVariables false
structure Cs where
  fr : Nat
  q : Bool
  e : Bool
  ps : List Txt
def cutStep (s : Txt) (i : Nat) (c : UInt8) (t : Cs) : Cs :=
  if t.e = true then { t with e := false }
  else if t.q = true ∧ c.toNat = 92 then { t with e := true }
  else if c.toNat = 34 then { t with q := !t.q }
  else if c.toNat = 32 ∧ t.q = false then { t with fr := i + 1, ps := t.ps ++ [(s.take i).drop t.fr] } else t
def cutRun (s : Txt) : Nat → Cs
  | 0 => ⟨0, false, false, []⟩
  | i + 1 => match s[i]? with
    | some c => cutStep s i c (cutRun s i)
    | none => cutRun s i
def okC (c : UInt8) : Bool := decide (32 ≤ c.toNat ∧ c.toNat ≤ 126)
def cutF (s : Txt) : Option (List Txt) := if s.all okC = true then some ((cutRun s s.length).ps ++ [s.drop (cutRun s s.length).fr]) else none
def stV (t : Txt) : Value := .string ⟨t.toArray⟩
theorem cut_fr (s : Txt) : ∀ i, (cutRun s i).fr ≤ i ∧ (cutRun s i).ps.length ≤ i
  | 0 => ⟨Nat.le_refl _, Nat.le_refl _⟩
  | i + 1 => by
    obtain ⟨h1, h2⟩ := cut_fr s i
    unfold cutRun
    split
    · unfold cutStep
      split
      · exact ⟨by simp only; omega, by simp only; omega⟩
      split
      · exact ⟨by simp only; omega, by simp only; omega⟩
      split
      · exact ⟨by simp only; omega, by simp only; omega⟩
      split
      · exact ⟨by simp only; omega, by simp only [List.length_append, List.length_singleton]; omega⟩
      · exact ⟨by omega, by omega⟩
    · exact ⟨by omega, by omega⟩
theorem ext_tx (s : ByteArray) (a b : Nat) : s.extract a b = ⟨((s.data.toList.take b).drop a).toArray⟩ := by
  apply ByteArray.ext
  rw [ByteArray.data_extract]
  apply Array.ext'
  rw [Array.toList_extract]
  simp [List.drop_take]
theorem info9 : (Tryd.prog.info? 9).map (fun i => (i.zero, i.size, i.bytes)) = some (some (.string ⟨#[]⟩), 1, 16) := by kernel_rfl
theorem row_iter {w : World} {base : Nat} {e : TypeId} {sz : Nat} {v : Value} {n : Nat} {xs : List Value} (h : w.ownsRow base e sz v n xs) {k : Nat} {s : ByteArray} {pos : Nat} (hk : w.heap[k]? = some (.stringIter s pos)) (pos' : Nat) : (w.iterAt k s pos').ownsRow base e sz v n xs := by
  refine ⟨h.1, ?_⟩
  rcases h.2 with hn | ⟨g, cap, cur, hv, hbg, hg, rest⟩
  · exact .inl hn
  · have hkg : g ≠ k := by
      intro e1
      rw [e1, hk] at hg
      cases hg
    exact .inr ⟨g, cap, cur, hv, hbg, (iterAt_other w k g s pos' hkg).trans hg, rest⟩
def CutAt (s : ByteArray) (w : World) (v4 v5 v6 v7 : Value) (w' : World) : Prop :=
  ∃ i, i ≤ s.size ∧ w'.heap[w.heap.size]? = some (.stringIter s i) ∧ (s.data.toList.take i).all okC = true ∧ w'.ownsRow (w.heap.size + 1) 9 1 v4 (cutRun s.data.toList i).ps.length ((cutRun s.data.toList i).ps.map stV) ∧
    (v4 = .slice none 0 0 ↔ (cutRun s.data.toList i).ps = []) ∧ v5 = .int .i64 ((cutRun s.data.toList i).fr : Nat) ∧ v6 = .bool (cutRun s.data.toList i).q ∧ v7 = .bool (cutRun s.data.toList i).e ∧ Below w.heap.size w w'
theorem al_at {W : World} {o : Go.Obj} : (W.alloc o).heap[W.heap.size]? = some o := by
  show (W.heap.push o)[W.heap.size]? = _
  simp
theorem al_size {W : World} {o : Go.Obj} : (W.alloc o).heap.size = W.heap.size + 1 := by
  show (W.heap.push o).size = _
  simp
theorem cells_new1 (w : World) (l : List Value) (t : TypeId) : ∀ j u, l[j]? = some u → (w.alloc (.cells l.toArray t)).cell? ((⟨w.heap.size, 0, none⟩ : Addr).add j) = some u := by
  intro j u hj
  have h : (w.alloc (.cells l.toArray t)).heap[w.heap.size]? = some (.cells l.toArray t (0, 0)) := al_at
  have e : (⟨w.heap.size, 0, none⟩ : Addr).add j = ⟨w.heap.size, j, none⟩ := by unfold Addr.add; split <;> simp_all
  rw [e]
  unfold World.cell?
  rw [h]
  simpa using hj
theorem cut_at {s : ByteArray} {i : Nat} (h : i < s.size) : s.data.toList[i]? = some (s[i]'h) := by
  have h' : i < s.data.toList.length := by simpa using h
  rw [List.getElem?_eq_getElem h']
  rfl
theorem cut_mu {s : ByteArray} {w wr w' : World} {i j : Nat} (h1 : wr.heap[w.heap.size]? = some (.stringIter s i)) (h2 : w'.heap[w.heap.size]? = some (.stringIter s j)) (hi : i < s.size) (hj : i < j) : s.size - w'.iterPos w.heap.size < s.size - wr.iterPos w.heap.size := by
  unfold World.iterPos
  rw [h1, h2]
  simp only
  omega
theorem cut_next {s : ByteArray} {w wr : World} {i fr fr' : Nat} {q e q' e' : Bool} {ps : List Txt} {v : Value} (hi : i < s.size) (hit : wr.heap[w.heap.size]? = some (.stringIter s i)) (hok : (s.data.toList.take i).all okC = true) (hc : okC (s[i]'hi) = true)
    (hst : cutRun s.data.toList i = ⟨fr, q, e, ps⟩) (hrow : wr.ownsRow (w.heap.size + 1) 9 1 v ps.length (ps.map stV)) (hnil : v = .slice none 0 0 ↔ ps = []) (hB : Below w.heap.size w wr)
    (hn : cutStep s.data.toList i (s[i]'hi) ⟨fr, q, e, ps⟩ = ⟨fr', q', e', ps⟩) :
    CutAt s w v (.int .i64 (fr' : Nat)) (.bool q') (.bool e') (wr.iterAt w.heap.size s (i + 1)) ∧ s.size - (wr.iterAt w.heap.size s (i + 1)).iterPos w.heap.size < s.size - wr.iterPos w.heap.size := by
  have h2 := iterAt_heap wr w.heap.size s i (i + 1) hit
  have hr : cutRun s.data.toList (i + 1) = ⟨fr', q', e', ps⟩ := by
    rw [cutRun, cut_at hi, hst]
    exact hn
  refine ⟨⟨i + 1, hi, h2, ?_, ?_, ?_, ?_, ?_, ?_, below_iterAt hB (Nat.le_refl _) _ _⟩, cut_mu hit h2 hi (by omega)⟩
  · rw [List.take_add_one, cut_at hi, List.all_append, hok]
    simp [hc]
  · rw [hr]; exact row_iter hrow hit _
  all_goals rw [hr]
  exact hnil
theorem okC_lo {c : UInt8} (h : (c.toNat : Int) < 32) : okC c = false := by unfold okC; exact dF (by omega)
theorem okC_hi {c : UInt8} (h : 126 < (c.toNat : Int)) : okC c = false := by unfold okC; exact dF (by omega)
theorem cut_bad {s : ByteArray} {i : Nat} (hi : i < s.size) (hc : okC (s[i]'hi) = false) : cutF s.data.toList = none := by
  unfold cutF
  rw [if_neg]
  intro h
  have := List.all_eq_true.1 h _ (List.mem_of_getElem? (cut_at hi))
  rw [hc] at this
  cases this
theorem cut_app {s : ByteArray} {w wr w1 : World} {i fr : Nat} {ps : List Txt} {v v1 : Value} {o : Go.Obj} (hi : i < s.size) (hit : wr.heap[w.heap.size]? = some (.stringIter s i)) (hok : (s.data.toList.take i).all okC = true) (hc : (s[i]'hi).toNat = 32)
    (hst : cutRun s.data.toList i = ⟨fr, false, false, ps⟩) (hrow : wr.ownsRow (w.heap.size + 1) 9 1 v ps.length (ps.map stV)) (hB : Below w.heap.size w wr) (hsz : w.heap.size < wr.heap.size)
    (hown : w1.ownsRow (w.heap.size + 1) 9 1 v1 (ps.length + 1) (ps.map stV ++ [.string (s.extract fr i)])) (hg : ((wr.iterAt w.heap.size s (i + 1)).alloc o).grownBy w1 v.ownBlock) :
    CutAt s w v1 (.int .i64 ((i + 1 : Nat) : Int)) (.bool false) (.bool false) w1 ∧ s.size - w1.iterPos w.heap.size < s.size - wr.iterPos w.heap.size := by
  have h2 := iterAt_heap wr w.heap.size s i (i + 1) hit
  have hb := hrow.lt
  have h3 : w1.heap[w.heap.size]? = some (.stringIter s (i + 1)) := by
    rw [hg.block w.heap.size (by rw [al_size]; show w.heap.size < (wr.iterAt w.heap.size s (i + 1)).heap.size + 1; rw [iterAt_size]; omega) (fun e => by have := (hb _ e.symm).1; omega)]
    rw [Below.heap_alloc _ _ _ (by rw [iterAt_size]; exact hsz)]
    exact h2
  have hr : cutRun s.data.toList (i + 1) = ⟨i + 1, false, false, ps ++ [(s.data.toList.take i).drop fr]⟩ := by
    rw [cutRun, cut_at hi, hst]
    show cutStep _ _ _ _ = _
    unfold cutStep
    rw [if_neg (by simp), if_neg (by simp), if_neg (by omega), if_pos ⟨hc, rfl⟩]
  refine ⟨⟨i + 1, hi, h3, ?_, ?_, ?_, ?_, ?_, ?_, ?_⟩, cut_mu hit h3 hi (by omega)⟩
  · rw [List.take_add_one, cut_at hi, List.all_append, hok]
    simp [okC, hc]
  · rw [hr]
    simp only [List.length_append, List.length_singleton, List.map_append, List.map_cons, List.map_nil, stV, ← ext_tx]
    exact hown
  · rw [hr]
    constructor
    · intro e; rw [e] at hown
      rcases hown.2 with ⟨_, h⟩ | ⟨_, _, _, h, _⟩
      · omega
      · cases h
    · intro e; simp at e
  · rw [hr]
  · rw [hr]
  · rw [hr]
  · exact Below.grown ((below_iterAt hB (Nat.le_refl _) _ _).alloc (by rw [iterAt_size]; omega) _) hg (by rw [al_size]; have := iterAt_size wr w.heap.size s (i + 1); omega) (fun k hk => by have := (hb _ hk).1; omega)
theorem cut_done {s : ByteArray} {w wr w1 : World} {i fr : Nat} {q e : Bool} {ps : List Txt} {v v1 : Value} {o : Go.Obj} (hi : i = s.size) (hok : (s.data.toList.take i).all okC = true)
    (hst : cutRun s.data.toList i = ⟨fr, q, e, ps⟩) (hrow : wr.ownsRow (w.heap.size + 1) 9 1 v ps.length (ps.map stV)) (hB : Below w.heap.size w wr) (hsz : w.heap.size < wr.heap.size)
    (hown : w1.ownsRow (w.heap.size + 1) 9 1 v1 (ps.length + 1) (ps.map stV ++ [.string (s.extract fr s.size)])) (hg : (wr.alloc o).grownBy w1 v.ownBlock) :
    Below w.heap.size w w1 ∧ ((cutF s.data.toList = none ∧ Ending.returned (.tuple #[v1, .bool true]) = .returned (.tuple #[.slice none 0 0, .bool false])) ∨
      ∃ l v, cutF s.data.toList = some l ∧ Ending.returned (.tuple #[v1, .bool true]) = .returned (.tuple #[v, .bool true]) ∧ w1.ownsRow (w.heap.size + 1) 9 1 v l.length (l.map stV)) := by
  have hb := hrow.lt
  have hln : s.data.toList.length = s.size := by simp
  refine ⟨Below.grown (hB.alloc (by omega) _) hg (by rw [al_size]; omega) (fun k hk => by have := (hb _ hk).1; omega), .inr ⟨ps ++ [s.data.toList.drop fr], v1, ?_, rfl, ?_⟩⟩
  · unfold cutF
    rw [hln, ← hi, hst, if_pos]
    rw [← List.take_of_length_le (show s.data.toList.length ≤ i by omega)]
    exact hok
  · rw [ext_tx, List.take_of_length_le (by omega)] at hown
    simp only [List.length_append, List.length_singleton, List.map_append, List.map_cons, List.map_nil, stV]
    exact hown
set_option maxRecDepth 100000 in
set_option maxHeartbeats 4000000 in
theorem cut_raw (s : ByteArray) (hs : s.size ≤ 1000000000) (w : World) :
    Calls Tryd.prog 61 #[.string s] w fun e w' => Below w.heap.size w w' ∧ ((cutF s.data.toList = none ∧ e = .returned (.tuple #[.slice none 0 0, .bool false])) ∨
      ∃ l v, cutF s.data.toList = some l ∧ e = .returned (.tuple #[v, .bool true]) ∧ w'.ownsRow (w.heap.size + 1) 9 1 v l.length (l.map stV)) := by
  obtain ⟨i0, hi, hz0, hz1, hz2⟩ := info_parts info9
  go_enter Tryd.func61, Tryd.ntmps61
  go_wp2
  go_step3
  go_wp2
  go_step3
  go_wp2
  go_loopw [4, 5, 6, 7] (CutAt s w) (fun _ _ _ _ w' => s.size - w'.iterPos w.heap.size)
  case atStart => exact ⟨0, Nat.zero_le _, World.iter_heap w s 0, rfl, World.ownsRow_nil _ _ _ _, ⟨fun _ => rfl, fun _ => rfl⟩, rfl, rfl, rfl, (Below.refl _ w).alloc (Nat.le_refl _) _⟩
  case round =>
    obtain ⟨i, hil, hit, hok, hrow, hnil, rfl, rfl, rfl, hB⟩ := hrel
    have hfr := cut_fr s.data.toList i
    generalize hst : cutRun s.data.toList i = st at *
    obtain ⟨fr, q, e, ps⟩ := st
    simp only at hrow hnil hfr
    have hsz : w.heap.size < wr.heap.size := (Array.getElem?_eq_some_iff.1 hit).1
    by_cases hp : i < s.size
    · by_cases ha : (s[i]'hp).toNat < 128
      · have hnx : ∀ ty, (Instr.next (.pointer (some ⟨w.heap.size, 0, none⟩)) true ty).run Tryd.prog wr = _ := fun ty => run_next_ascii_at wr w.heap.size s i ty hit hp ha
        by_cases h32 : ((s[i]'hp).toNat : Int) < 32
        · have hno := cut_bad hp (okC_lo h32)
          go_wp2_with fail
          all_goals try rw [Exit.noGoto_ret]
          all_goals go_ret2
          all_goals exact ⟨below_iterAt hB (Nat.le_refl _) _ _, .inl ⟨hno, rfl⟩⟩
        by_cases h126 : 126 < ((s[i]'hp).toNat : Int)
        · have hno := cut_bad hp (okC_hi h126)
          go_wp2_with fail
          all_goals try rw [Exit.noGoto_ret]
          all_goals go_ret2
          all_goals exact ⟨below_iterAt hB (Nat.le_refl _) _ _, .inl ⟨hno, rfl⟩⟩
        have hc : okC (s[i]'hp) = true := by unfold okC; exact dT (by omega)
        cases e with
        | true =>
          go_wp2_with fail
          all_goals exact cut_next hp hit hok hc hst hrow hnil hB rfl
        | false =>
          cases q with
          | true =>
            by_cases h92 : ((s[i]'hp).toNat : Int) = 92
            · go_wp2_with fail
              all_goals exact cut_next hp hit hok hc hst hrow hnil hB (by unfold cutStep; rw [if_neg (by simp), if_pos ⟨rfl, by omega⟩])
            by_cases h34 : ((s[i]'hp).toNat : Int) = 34
            · go_wp2_with fail
              all_goals exact cut_next hp hit hok hc hst hrow hnil hB (by unfold cutStep; rw [if_neg (by simp), if_neg (fun h => by have := h.2; omega), if_pos (by omega)]; rfl)
            · go_wp2_with fail
              all_goals exact cut_next hp hit hok hc hst hrow hnil hB (by unfold cutStep; rw [if_neg (by simp), if_neg (fun h => by have := h.2; omega), if_neg (by omega), if_neg (fun h => by cases h.2)])
          | false =>
            by_cases h34 : ((s[i]'hp).toNat : Int) = 34
            · go_wp2_with fail
              all_goals exact cut_next hp hit hok hc hst hrow hnil hB (by unfold cutStep; rw [if_neg (by simp), if_neg (fun h => by cases h.1), if_pos (by omega)]; rfl)
            by_cases h32' : ((s[i]'hp).toNat : Int) = 32
            · go_wp2_with (at_builtin; refine wpList_append_own _ rfl _ _ 70 rfl (w.heap.size + 1) 9 i0 _ 1 16 Tryd.underlying70 hi hz0 hz1 hz2 rfl (by decide) _ _ _ rfl ((row_iter hrow hit _).alloc _) ⟨_, 0, none⟩ 1 1 [.string (s.extract fr i)] rfl rfl (cells_new1 _ _ _) (by simp [Value.oneCell']) (by unfold maxLen; omega) (by omega) (by rw [al_size]; have := iterAt_size wr w.heap.size s (i + 1); omega) ?_; intro v1 w1 hown hgrow _)
              all_goals exact cut_app hp hit hok (by omega) hst hrow hB hsz hown hgrow
            · go_wp2_with fail
              all_goals exact cut_next hp hit hok hc hst hrow hnil hB (by unfold cutStep; rw [if_neg (by simp), if_neg (fun h => by cases h.1), if_neg (by omega), if_neg (fun h => by have := h.1; omega)])
      · have hnx : ∀ ty, (Instr.next (.pointer (some ⟨w.heap.size, 0, none⟩)) true ty).run Tryd.prog wr = _ := fun ty => run_next_any_at wr w.heap.size s i ty hit hp
        have hno := cut_bad hp (okC_hi (by omega))
        have hd := (decode_high s i hp (by omega)).1
        have h32 : ¬ (((Utf8.decode s i).1 : Nat) : Int) < 32 := by omega
        have h126 : 126 < (((Utf8.decode s i).1 : Nat) : Int) := by omega
        go_wp2_with fail
        all_goals try rw [Exit.noGoto_ret]
        all_goals go_ret2
        all_goals exact ⟨below_iterAt hB (Nat.le_refl _) _ _, .inl ⟨hno, rfl⟩⟩
    · have hnx : ∀ ty, (Instr.next (.pointer (some ⟨w.heap.size, 0, none⟩)) true ty).run Tryd.prog wr = _ := fun ty => run_next_end_at wr w.heap.size s i ty hit hp
      have hie : i = s.size := by omega
      go_wp2_with (at_builtin; refine wpList_append_own _ rfl _ _ 70 rfl (w.heap.size + 1) 9 i0 _ 1 16 Tryd.underlying70 hi hz0 hz1 hz2 rfl (by decide) _ _ _ rfl (hrow.alloc _) ⟨_, 0, none⟩ 1 1 [.string (s.extract fr s.size)] rfl rfl (cells_new1 _ _ _) (by simp [Value.oneCell']) (by unfold maxLen; omega) (by omega) (by rw [al_size]; omega) ?_; intro v1 w1 hown hgrow _)
      all_goals try rw [Exit.noGoto_ret]
      all_goals go_ret2
      all_goals exact cut_done hie hok hst hrow hB hsz hown hgrow
theorem bel_obj {w w' : World} (h : Below w.heap.size w w') {l : List Txt} {v : Value} (hown : w'.ownsRow (w.heap.size + 1) 9 1 v l.length (l.map stV)) : w'.ownsRow w.heap.size 9 1 v l.length (l.map stV) := by
  refine ⟨hown.1, ?_⟩
  rcases hown.2 with hn | ⟨g, cap, cur, hv, hbg, rest⟩
  · exact .inl hn
  · exact .inr ⟨g, cap, cur, hv, by omega, rest⟩
theorem vr_tup2 {ρ : AL.Place} {S : Store} {w : World} {b : Bool} {x y : V} {u v : Value} (h1 : VR ρ S w b x u) (h2 : VR ρ S w b y v) : VR ρ S w b (.tup [x, y]) (.tuple #[u, v]) :=
  .tup (fun j => match j with | 0 => u | _ => v) rfl (fun j z hj => match j, hj with
    | 0, hj => rfl
    | 1, hj => rfl) (fun j z hj => match j, hj with
    | 0, hj => by cases hj; exact h1
    | 1, hj => by cases hj; exact h2)
theorem cut_ps_len (s : Txt) : ∀ i, ∀ t ∈ (cutRun s i).ps, t.length ≤ s.length
  | 0, t, h => by cases h
  | i + 1, t, h => by
    have ih := cut_ps_len s i
    unfold cutRun at h
    split at h
    · unfold cutStep at h
      split at h
      · exact ih t h
      split at h
      · exact ih t h
      split at h
      · exact ih t h
      split at h
      · rcases List.mem_append.1 h with h | h
        · exact ih t h
        · rw [List.mem_singleton] at h
          rw [h]
          simp
          omega
      · exact ih t h
    · exact ih t h
theorem cut_lens {s : Txt} {l : List Txt} (h : cutF s = some l) : ∀ t ∈ l, t.length ≤ s.length := by
  unfold cutF at h
  split at h
  · cases h
    intro t ht
    rcases List.mem_append.1 ht with ht | ht
    · exact cut_ps_len s _ t ht
    · rw [List.mem_singleton] at ht
      rw [ht]
      simp
  · cases h
theorem cut_ne {s : Txt} {l : List Txt} (h : cutF s = some l) : l ≠ [] := by
  unfold cutF at h
  split at h
  · cases h
    simp
  · cases h
def cutV (s : Txt) : V := match cutF s with
  | some l => .tup [.sl 1 (l.map fun t => [.str t]), .bool true]
  | none => .tup [.nilSl, .bool false]
theorem cut_A (s : Txt) (hs : s.length ≤ 1000000000) (S : Store) : CallA Tryd.prog 61 [.str s] S fun r S' => r = cutV s ∧ S' = S := by
  refine ⟨⟨Tryd.f61, Tryd.func61, by kernel_rfl, by kernel_rfl⟩, fun ρ w us hi hv => ?_⟩
  obtain ⟨hl, hv⟩ := hv
  obtain ⟨u, hu, hr⟩ := hv 0 _ rfl
  have hus : us = #[u] := by
    apply Array.ext
    · simpa using hl
    · intro i h1 h2
      have h2' : i = 0 := by simpa using h2
      subst h2'
      rw [Array.getElem?_eq_getElem h1] at hu
      exact Option.some.inj hu
  subst hus
  cases hr with
  | str he hm =>
    rename_i sb
    subst he
    refine (cut_raw sb (by simpa using hs) w).mono fun en w' ⟨hB, h⟩ => ?_
    unfold cutV
    rcases h with ⟨h1, h2⟩ | ⟨l, v, h1, h2, h3⟩
    · rw [h1]
      subst h2
      exact ⟨ρ, S, _, _, rfl, vr_tup2 .nilSl .bool, inv_below hi hB, ext_below hB, rfl, rfl⟩
    · have hlen := cut_lens h1
      have hne := cut_ne h1
      rw [h1]
      subst h2
      have hrow : VR ρ S w' false (.sl 1 (l.map fun t => [V.str t])) v := row_imm (rows := l.map fun t => [V.str t]) hi hB (bel_obj hB h3) (by simp) (List.length_pos_iff.2 hne) ⟨fun i r hr => ?_, fun i r hr j y hj => ?_⟩ (fun r hr => ?_) false
      · exact ⟨ρ, S, _, _, rfl, vr_tup2 hrow .bool, inv_below hi hB, ext_below hB, rfl, rfl⟩
      · rw [List.getElem?_map] at hr
        obtain ⟨t, _, rfl⟩ := Option.map_eq_some_iff.1 hr
        rfl
      · rw [List.getElem?_map] at hr
        obtain ⟨t, ht, rfl⟩ := Option.map_eq_some_iff.1 hr
        have hj0 : j = 0 := by
          have := (List.getElem?_eq_some_iff.1 hj).1
          simpa using this
        subst hj0
        simp only [List.getElem?_cons_zero, Option.some.injEq] at hj
        subst hj
        refine ⟨stV t, ?_, ?_, rfl⟩
        · rw [Nat.mul_one, Nat.add_zero, List.getElem?_map, ht]; rfl
        · refine .str (by rfl) ?_
          have := hlen t (List.mem_of_getElem? ht)
          show t.length ≤ maxLen
          unfold maxLen
          omega
      · obtain ⟨t, _, rfl⟩ := List.mem_map.1 hr
        rfl
end Go.Proofs.YtkdbghhdklfoiaaDoor
