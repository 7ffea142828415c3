/- The road from a contract to a row: what the readings of the arguments say of them, and what must be said of the end. -/
import Derived.Test.YtkdbghhdklfoiaaDoorSAlF
import Derived.Test.YtkdbghhdklfoiaaDoorRows
import Derived.ProofKit
import Derived.OpenShut
import Derived.JoinedCond
import Derived.Deep.Slices
namespace Go.AL
set_option linter.unusedSectionVars false
variable [Mode]
set_option linter.unusedSimpArgs false
set_option linter.unusedVariables false
open Go.Proofs.YtkdbghhdklfoiaaDoor Go.ChangeShapes Go.WideShapes Go.ChangeAt Go.RowKit
mutual
def V.bulk : V → Nat
  | .str l => l.length + 1
  | .sl _ rows => rowsBulk rows + 1
  | .agg vs => cellsBulk vs
  | _ => 1
def cellsBulk : List V → Nat
  | [] => 0
  | v :: r => v.bulk + cellsBulk r
def rowsBulk : List (List V) → Nat
  | [] => 0
  | c :: r => cellsBulk c + rowsBulk r
end
theorem cellsBulk_append (a b : List V) : cellsBulk (a ++ b) = cellsBulk a + cellsBulk b := by
  induction a with
  | nil => simp [cellsBulk]
  | cons v r ih => simp only [List.cons_append, cellsBulk, ih]; omega
def noPlace : Place := fun _ => none
theorem un_none {W : World} {g : Nat} (h : g < W.heap.size) : Unowned noPlace [] W g := ⟨h, fun id o c g' tot ho => by simp at ho⟩
def CsR (W : World) (vs : List V) (cs : List Value) : Prop :=
  cs.length = vs.length ∧ ∀ (j : Nat) (v : V), vs[j]? = some v → ∃ u, cs[j]? = some u ∧ VR noPlace [] W true v u ∧ u.oneCell' = true
theorem CsR.one {W : World} {v : V} {u : Value} (h : VR noPlace [] W true v u) (h1 : u.oneCell' = true) : CsR W [v] [u] :=
  ⟨rfl, fun j x hj => by
    cases j with
    | zero => simp at hj; subst hj; exact ⟨u, rfl, h, h1⟩
    | succ j => simp at hj⟩
theorem CsR.append {W : World} {vs ws : List V} {cs ds : List Value} (h : CsR W vs cs) (k : CsR W ws ds) : CsR W (vs ++ ws) (cs ++ ds) :=
  ⟨by simp [h.1, k.1], fun j v hj => by
    by_cases hlt : j < vs.length
    · rw [List.getElem?_append_left hlt] at hj
      obtain ⟨u, hu, hr⟩ := h.2 j v hj
      exact ⟨u, by rw [List.getElem?_append_left (by rw [h.1]; exact hlt)]; exact hu, hr⟩
    · rw [List.getElem?_append_right (by omega)] at hj
      obtain ⟨u, hu, hr⟩ := k.2 _ v hj
      exact ⟨u, by rw [List.getElem?_append_right (by rw [h.1]; omega), h.1]; exact hu, hr⟩⟩
def Keeps (W W' : World) : Prop := ∀ g, g < W.heap.size → W'.heap[g]? = W.heap[g]?
def Opens (P : Program) (t : TypeId) {α : Type} (en : α → List V) (wf : α → Prop) : Prop :=
  ∀ (H : Type) (e : TypeId × Value → H) (W : World) (fuel : Nat) (cs : List Value) (x : DataW H × List MemPlace), DataW.trod e P W 0 (fun _ => true) true fuel t cs = some x →
    ∃ a, wf a ∧ CsR W (en a) cs ∧ cellsBulk (en a) ≤ Rows.uptoBulk x.1 ∧
      ∀ (W' : World) (sp : Nat → Bool), Keeps W W' → (∀ g, g < W.heap.size → sp g = true) → ∃ n, DataW.trod e P W' 0 sp true n t cs = some x
section
variable {P : Program} {t q : TypeId}
theorem Opens.bool (ht : P.underlying t = some .bool) : Opens P t (fun b : Bool => [.bool b]) (fun _ => True) := by
  intro H e W fuel cs x h
  cases fuel with
  | zero => simp [DataW.trod] at h
  | succ n =>
    unfold DataW.trod at h
    rw [ht] at h
    split at h <;> simp_all [-Bool.exists_bool]
    subst h
    exact ⟨_, CsR.one .bool rfl, by simp [V.bulk, cellsBulk, Rows.uptoBulk], fun W' sp _ _ => ⟨1, by simp [DataW.trod, ht]⟩⟩
theorem Opens.int {k : IntKind} (ht : P.underlying t = some (.int k)) : Opens P t (fun n : Int => [.int k n]) (fun n => k.min ≤ n ∧ n ≤ k.max) := by
  intro H e W fuel cs x h
  cases fuel with
  | zero => simp [DataW.trod] at h
  | succ n =>
    unfold DataW.trod at h
    rw [ht] at h
    split at h <;> simp_all
    obtain ⟨⟨rfl, hw⟩, rfl⟩ := h
    simp only [Lit.wf, Bool.and_eq_true, decide_eq_true_eq] at hw
    exact ⟨_, hw, CsR.one .int rfl, by simp [V.bulk, cellsBulk, Rows.uptoBulk], fun W' sp _ _ => ⟨1, by simp [DataW.trod, ht, Lit.wf, hw]⟩⟩
theorem Opens.str (ht : P.underlying t = some .string) : Opens P t (fun l : List UInt8 => [.str l]) (fun _ => True) := by
  intro H e W fuel cs x h
  cases fuel with
  | zero => simp [DataW.trod] at h
  | succ n =>
    unfold DataW.trod at h
    rw [ht] at h
    split at h <;> simp_all
    obtain ⟨hm, rfl⟩ := h
    exact ⟨_, CsR.one (.str rfl hm) rfl, by simp [V.bulk, cellsBulk, Rows.uptoBulk], fun W' sp _ _ => ⟨1, by simp [DataW.trod, ht, hm]⟩⟩
theorem list_of {α : Type} {p : Nat → α → Prop} : ∀ (n : Nat), (∀ i, i < n → ∃ a, p i a) → ∃ l : List α, l.length = n ∧ ∀ (i : Nat) (a : α), l[i]? = some a → p i a
  | 0, _ => ⟨[], rfl, fun i a h => by simp at h⟩
  | n + 1, h => by
    obtain ⟨l, hl, hp⟩ := list_of n fun i hi => h i (by omega)
    obtain ⟨a, ha⟩ := h n (by omega)
    refine ⟨l ++ [a], by simp [hl], fun i x hx => ?_⟩
    by_cases hlt : i < l.length
    · rw [List.getElem?_append_left hlt] at hx
      exact hp i x hx
    · rw [List.getElem?_append_right (by omega)] at hx
      have hi : i = n := by
        have := (List.getElem?_eq_some_iff.1 hx).1
        simp at this
        omega
      subst hi
      rw [hl] at hx
      simp at hx
      subst hx
      exact ha
theorem cell_at {W : World} {a : Addr} {k : Nat} {u : Value} (h : W.cell? (a.add k) = some u) : W.cell? ⟨a.block, a.off + k, none⟩ = some u ∧ a.block < W.heap.size ∧ (k = 0 → a.spot = none) := by
  by_cases hk : k = 0
  · subst hk
    simp only [Addr.add, if_true] at h
    unfold World.cell? at h
    split at h
    · rename_i c t f hb
      split at h
      · cases h
      · rename_i hs
        refine ⟨by simp [World.cell?, hb, h], (Array.getElem?_eq_some_iff.1 hb).1, fun _ => by simpa using hs⟩
    · cases h
  · have hl : a.add k = ⟨a.block, a.off + k, none⟩ := by simp [Addr.add, hk]
    rw [hl] at h
    refine ⟨h, ?_, fun h0 => absurd h0 hk⟩
    unfold World.cell? at h
    split at h
    · rename_i c t f hb
      exact (Array.getElem?_eq_some_iff.1 hb).1
    · cases h
theorem rowsBulk_le {α H : Type} {en : α → List V} : ∀ (l : List α) (D : List (DataW H)), l.length = D.length → (∀ (i : Nat) (a : α) (d : DataW H), l[i]? = some a → D[i]? = some d → cellsBulk (en a) ≤ Rows.uptoBulk d) → rowsBulk (l.map en) ≤ Rows.uptoBulkAll D
  | [], D, _, _ => by simp [rowsBulk]
  | a :: l, [], hl, _ => by simp at hl
  | a :: l, d :: D, hl, h => by
    have h1 := h 0 a d rfl rfl
    have h2 := rowsBulk_le l D (by simpa using hl) fun i x y hx hy => h (i + 1) x y (by simpa using hx) (by simpa using hy)
    simp only [List.map_cons, rowsBulk, Rows.uptoBulkAll]
    omega
theorem Opens.slice {α : Type} {en : α → List V} {wf : α → Prop} {sz : Nat} (ht : P.underlying t = some (.slice q)) (hsz : P.cellsOf q = sz) (hp : 0 < sz) (hl0 : ∀ a, (en a).length = sz) (hq : Opens P q en wf) :
    Opens P t (fun l : List α => [.sl sz (l.map en)]) (fun l => ∀ a ∈ l, wf a) := by
  intro H e W fuel cs x h
  rcases Deep.open_slice ht h with ⟨rfl, rfl⟩ | ⟨a, len, cap, m, n, D, Pl, rfl, _, hl, hm, hmm, rfl, hx⟩
  · exact ⟨[], by simp, CsR.one .slNil rfl, by simp [V.bulk, cellsBulk, rowsBulk, Rows.uptoBulk], fun W' sp _ _ => ⟨1, by simp [DataW.trod, ht]⟩⟩
  simp only [if_true] at hmm
  subst hmm
  by_cases hc0 : m = 0
  · subst hc0
    have hl0 : len = 0 := by omega
    subst hl0
    exact ⟨[], by simp, CsR.one .slNil rfl, by simp [V.bulk, cellsBulk, rowsBulk, Rows.uptoBulk], fun W' sp _ _ => ⟨1, by simp [DataW.trod, ht, MemPlace.row]⟩⟩
  · have key : ∀ i, i < m → ∃ y : α, wf y ∧ cellsBulk (en y) ≤ Rows.uptoBulk (D i) ∧ (∀ (j : Nat) (v : V), (en y)[j]? = some v → ∃ u, W.cell? ⟨a.block, a.off + (i * sz + j), none⟩ = some u ∧ VR noPlace [] W true v u ∧ u.oneCell' = true) ∧
        a.block < W.heap.size ∧ (i = 0 → a.spot = none) ∧
        ∀ (W' : World) (sp : Nat → Bool), Keeps W W' → (∀ g, g < W.heap.size → sp g = true) → ∃ cs' n, W'.cells? 0 (a.add (i * P.cellsOf q)) (P.cellsOf q) = some cs' ∧ DataW.trod e P W' 0 sp true n q cs' = some (D i, Pl i) := by
      intro i hi
      obtain ⟨cs', h1, h2⟩ := hx i hi
      obtain ⟨y, hy, hr, hb, hf⟩ := hq H e W n cs' _ h2
      obtain ⟨_, hlen, hcell⟩ := World.cells?_some h1
      have hcs : ∀ j u, cs'[j]? = some u → W.cell? (a.add (i * sz + j)) = some u := by
        intro j u hu
        have hj : j < P.cellsOf q := by rw [← hlen]; exact (List.getElem?_eq_some_iff.1 hu).1
        have := hcell j hj
        rw [Deep.add_add, hu, hsz] at this
        exact this
      have h0 : ∃ u, cs'[0]? = some u := ⟨cs'[0]'(by omega), List.getElem?_eq_getElem (by omega)⟩
      obtain ⟨u0, hu0⟩ := h0
      have hblk := cell_at (hcs 0 u0 hu0)
      refine ⟨y, hy, hb, fun j v hj => ?_, hblk.2.1, fun hi0 => hblk.2.2 (by subst hi0; simp), fun W' sp hk hs => ?_⟩
      · obtain ⟨u, hu, hv, h3⟩ := hr.2 j v hj
        exact ⟨u, (cell_at (hcs j u hu)).1, hv, h3⟩
      · obtain ⟨n', hn'⟩ := hf W' sp hk hs
        refine ⟨cs', n', ?_, hn'⟩
        rw [← h1]
        have hadd : ∀ (x : Addr) (k : Nat), (x.add k).block = x.block := fun x k => by unfold Addr.add; split <;> rfl
        have hce : ∀ k, W'.cell? ((a.add (i * P.cellsOf q)).add k) = W.cell? ((a.add (i * P.cellsOf q)).add k) := fun k => by
          unfold World.cell?
          rw [hadd, hadd, hk _ hblk.2.1]
        unfold World.cells?
        simp only [hce]
    obtain ⟨all, hal, hall⟩ := list_of m key
    obtain ⟨y0, _, _, _, hblk, hspot, _⟩ := key 0 (by omega)
    have ha : a = ⟨a.block, a.off, none⟩ := by
      have := hspot rfl
      cases a
      simp_all
    have hget : ∀ i y, (all.take len)[i]? = some y → i < len ∧ all[i]? = some y := by
      intro i y hy
      rw [List.getElem?_take] at hy
      split at hy
      · rename_i h1; exact ⟨h1, hy⟩
      · cases hy
    have hrow : ∀ (i : Nat) (r : List V), ((all.take len).map en)[i]? = some r → ∃ y, all[i]? = some y ∧ r = en y := by
      intro i r hr
      simp only [List.getElem?_map, Option.map_eq_some_iff] at hr
      obtain ⟨y, hy, rfl⟩ := hr
      exact ⟨y, (hget i y hy).2, rfl⟩
    refine ⟨all.take len, fun y hy => ?_, ?_, ?_, fun W' sp hk hs => ?_⟩
    · obtain ⟨i, hi⟩ := List.getElem?_of_mem hy
      exact (hall i y (hget i y hi).2).1
    · refine CsR.one ?_ rfl
      rw [ha]
      refine .sl (fun i j => (W.cell? ⟨a.block, a.off + (i * sz + j), none⟩).getD Go.undef) (un_none hblk) (by simp; omega) hl hm (fun i r hr => ?_) (fun i r hr j v hj => ?_) (fun i r hr j v hj => ?_) (fun i r hr j v hj => ?_)
      · obtain ⟨y, _, rfl⟩ := hrow i r hr
        exact hl0 y
      all_goals
        obtain ⟨y, hy, rfl⟩ := hrow i r hr
        obtain ⟨u, h1, h2, h3⟩ := (hall i y hy).2.2.1 j v hj
        simp only [h1, Option.getD_some]
        try assumption
    · have := rowsBulk_le (en := en) (all.take len) ((List.range len).map D) (by simp; omega) fun i y d hy hd => by
        obtain ⟨h1, h2⟩ := hget i y hy
        simp only [List.getElem?_map, List.getElem?_range h1, Option.map_some, Option.some.injEq] at hd
        subst hd
        exact (hall i y h2).2.1
      simp only [V.bulk, cellsBulk, Rows.uptoBulk]
      omega
    · exact Deep.shut_slice_whole_cells ht (Nat.zero_le _) hl hm (hs _ hblk) D Pl fun i hi => (by
        obtain ⟨y, _, _, _, _, _, hf⟩ := key i hi
        exact hf W' sp hk hs)
def OpensL (P : Program) (ts : List TypeId) {α : Type} (en : α → List V) (wf : α → Prop) : Prop :=
  ∀ (H : Type) (e : TypeId × Value → H) (W : World) (css : List (List Value)) (xs : List (DataW H × List MemPlace)), css.length = ts.length → xs.length = ts.length →
    (∀ (i : Nat) (t : TypeId) (cs : List Value) (x : DataW H × List MemPlace), ts[i]? = some t → css[i]? = some cs → xs[i]? = some x → ∃ n, DataW.trod e P W 0 (fun _ => true) true n t cs = some x) →
    ∃ a, wf a ∧ CsR W (en a) css.flatten ∧ cellsBulk (en a) ≤ Rows.uptoBulkAll (xs.map (·.1)) ∧
      ∀ (W' : World) (sp : Nat → Bool), Keeps W W' → (∀ g, g < W.heap.size → sp g = true) →
        ∀ (i : Nat) (t : TypeId) (cs : List Value) (x : DataW H × List MemPlace), ts[i]? = some t → css[i]? = some cs → xs[i]? = some x → ∃ n, DataW.trod e P W' 0 sp true n t cs = some x
theorem OpensL.nil : OpensL P [] (fun _ : Unit => []) (fun _ => True) := by
  intro H e W css xs h1 h2 _
  rw [List.length_eq_zero_iff.1 h1, List.length_eq_zero_iff.1 h2]
  exact ⟨(), trivial, ⟨rfl, by simp⟩, by simp [cellsBulk], fun W' sp _ _ i t cs x h => by simp at h⟩
theorem OpensL.cons {ts : List TypeId} {α β : Type} {en : α → List V} {wf : α → Prop} {en' : β → List V} {wf' : β → Prop} (h : Opens P t en wf) (hr : OpensL P ts en' wf') :
    OpensL P (t :: ts) (fun p : α × β => en p.1 ++ en' p.2) (fun p => wf p.1 ∧ wf' p.2) := by
  intro H e W css xs h1 h2 hx
  match css, xs, h1, h2 with
  | cs :: css, x :: xs, h1, h2 =>
    obtain ⟨n, hn⟩ := hx 0 t cs x rfl rfl rfl
    obtain ⟨a, ha, hc, hb, hf⟩ := h H e W n cs x hn
    obtain ⟨b, hb1, hb2, hb3, hb4⟩ := hr H e W css xs (by simpa using h1) (by simpa using h2) fun i t cs x ht hcs hxs => hx (i + 1) t cs x (by simpa using ht) (by simpa using hcs) (by simpa using hxs)
    refine ⟨(a, b), ⟨ha, hb1⟩, by simpa using hc.append hb2, by simp only [cellsBulk_append, List.map_cons, Rows.uptoBulkAll]; omega, fun W' sp hk hs i t' cs' x' ht hcs hxs => ?_⟩
    cases i with
    | zero => simp at ht hcs hxs; subst ht hcs hxs; exact hf W' sp hk hs
    | succ i => exact hb4 W' sp hk hs i t' cs' x' (by simpa using ht) (by simpa using hcs) (by simpa using hxs)
theorem OpensL.one {α : Type} {en : α → List V} {wf : α → Prop} (h : Opens P t en wf) : OpensL P [t] en wf := by
  intro H e W css xs h1 h2 hx
  obtain ⟨p, hp, hc, hb, hf⟩ := OpensL.cons h OpensL.nil H e W css xs h1 h2 hx
  exact ⟨p.1, hp.1, by simpa using hc, by simpa using hb, hf⟩
def layB (P : Program) : List Field → Nat → Option Nat
  | [], off => some off
  | f :: r, off => if f.offset = off then layB P r (off + P.cellsOf f.type) else none
theorem layB_flat {P : Program} : ∀ (fs : List Field) (off n : Nat) (cs : List Value), layB P fs off = some n → cs.length = n → off ≤ n ∧ (fs.map fun f => (cs.drop f.offset).take (P.cellsOf f.type)).flatten = cs.drop off
  | [], off, n, cs, h, hl => by
    simp only [layB, Option.some.injEq] at h
    subst h
    simp [hl]
  | f :: r, off, n, cs, h, hl => by
    simp only [layB] at h
    split at h
    · rename_i ho
      subst ho
      obtain ⟨h1, h2⟩ := layB_flat r _ n cs h hl
      refine ⟨by omega, ?_⟩
      simp only [List.map_cons, List.flatten_cons, h2]
      rw [← List.drop_drop, List.take_append_drop]
    · cases h
theorem mapM_some {α β : Type} {f : α → Option β} : ∀ (l : List α) (xs : List β), l.length = xs.length → (∀ (i : Nat) (a : α) (x : β), l[i]? = some a → xs[i]? = some x → f a = some x) → l.mapM f = some xs
  | [], xs, h, _ => by
    have : xs = [] := List.length_eq_zero_iff.1 (by simpa using h.symm)
    subst this
    rfl
  | a :: l, [], h, _ => by simp at h
  | a :: l, x :: xs, h, hf => by
    have h1 := hf 0 a x rfl rfl
    have h2 := mapM_some l xs (by simpa using h) fun i b y hb hy => hf (i + 1) b y (by simpa using hb) (by simpa using hy)
    simp [List.mapM_cons, h1, h2]
theorem Opens.struct {fs : Array Field} {α : Type} {en : α → List V} {wf : α → Prop} (ht : P.underlying t = some (.struct fs)) (hl : layB P fs.toList 0 = some (P.cellsOf t)) (h : OpensL P (fs.toList.map (·.type)) en wf) : Opens P t en wf := by
  intro H e W fuel cs x hx
  obtain ⟨xs, n, _, rfl, hlen, hxl, hf⟩ := DataW.trod_struct ht hx
  have hflat := (layB_flat fs.toList 0 _ cs hl hlen).2
  rw [List.drop_zero] at hflat
  have hxl' : xs.length = fs.toList.length := by simpa using hxl
  obtain ⟨a, ha, hc, hb, hfr⟩ := h H e W (fs.toList.map fun f => (cs.drop f.offset).take (P.cellsOf f.type)) xs (by simp) (by simpa using hxl') fun i t' cs' x' h1 h2 h3 => by
    simp only [List.getElem?_map, Option.map_eq_some_iff] at h1 h2
    obtain ⟨f, hf1, rfl⟩ := h1
    obtain ⟨f', hf2, rfl⟩ := h2
    rw [hf1] at hf2
    cases hf2
    refine ⟨n, ?_⟩
    rw [hf i f (by simpa using hf1)]
    exact h3
  refine ⟨a, ha, by rw [← hflat]; exact hc, by simp only [Rows.uptoBulk]; omega, fun W' sp hk hs => ?_⟩
  have hall : ∀ i, i < fs.toList.length → ∃ m, ∀ f x', fs.toList[i]? = some f → xs[i]? = some x' → DataW.trod e P W' 0 sp true m f.type ((cs.drop f.offset).take (P.cellsOf f.type)) = some x' := by
    intro i hi
    have h1 : fs.toList[i]? = some fs.toList[i] := List.getElem?_eq_getElem hi
    have h2 : xs[i]? = some xs[i] := List.getElem?_eq_getElem (by omega)
    obtain ⟨m, hm⟩ := hfr W' sp hk hs i fs.toList[i].type ((cs.drop fs.toList[i].offset).take (P.cellsOf fs.toList[i].type)) xs[i] (by simp only [List.getElem?_map, h1, Option.map_some]) (by simp only [List.getElem?_map, h1, Option.map_some]) h2
    refine ⟨m, fun f x' hf1 hx1 => ?_⟩
    rw [h1] at hf1
    rw [h2] at hx1
    cases hf1
    cases hx1
    exact hm
  obtain ⟨m, hm⟩ := Deep.fuel_lt (q := fun i m => ∀ f x', fs.toList[i]? = some f → xs[i]? = some x' → DataW.trod e P W' 0 sp true m f.type ((cs.drop f.offset).take (P.cellsOf f.type)) = some x')
    (fun i a b hab hq f x' h1 h2 => DataW.trod_le hab (hq f x' h1 h2)) hall
  exact ⟨m + 1, trod_struct_mk ht hlen (mapM_some _ _ hxl'.symm fun i f x' h1 h2 => hm i (List.getElem?_eq_some_iff.1 h1).1 f x' h1 h2)⟩
theorem Opens.as {α β : Type} {en : α → List V} {wf : α → Prop} (h : Opens P t en wf) (en' : β → List V) (wf' : β → Prop) (f : α → β) (he : ∀ a, en' (f a) = en a) (hw : ∀ a, wf a → wf' (f a)) : Opens P t en' wf' := by
  intro H e W fuel cs x hx
  obtain ⟨a, ha, hc, hb, hf⟩ := h H e W fuel cs x hx
  exact ⟨f a, hw a ha, by rw [he]; exact hc, by rw [he]; exact hb, hf⟩
theorem Opens.arg {α : Type} {mk : α → V} {wf : α → Prop} (h : Opens P t (fun a => [mk a]) wf) (hk : (match P.underlying t with | some .bool | some (.int _) | some .string | some (.slice _) => true | _ => false) = true)
    {H : Type} {e : TypeId × Value → H} {W : World} {base : Nat} {v : Value} {d : DataW H} {ps : List MemPlace} (hval : Value.okWide P W .any base t v) (hd : DataW.Trod e P W 0 (fun _ => true) true t v d ps) :
    ∃ a, wf a ∧ VR noPlace [] W false (mk a) v ∧ (mk a).bulk ≤ Rows.uptoBulk d ∧ ∀ (W' : World) (sp : Nat → Bool), Keeps W W' → (∀ g, g < W.heap.size → sp g = true) → DataW.Trod e P W' 0 sp true t v d ps := by
  obtain ⟨fuel, hd⟩ := hd
  obtain ⟨a, ha, hc, hb, hf⟩ := h H e W fuel _ _ hd
  have hcells : v.cells = #[v] := by
    cases v with
    | agg cs =>
      exfalso
      unfold Value.okWide at hval
      split at hval
      · rename_i hu; rw [hu] at hk; simp at hk
      · rename_i hu; rw [hu] at hk; simp at hk
      · unfold Cell.okWide at hval
        split at hval <;> first | (rename_i heq _ ; cases heq; done) | skip
        all_goals first | (simp_all; done) | (unfold Cell.ok at hval; split at hval <;> simp_all)
    | _ => rfl
  rw [hcells] at hc
  obtain ⟨u, hu, hv, _⟩ := hc.2 0 (mk a) rfl
  simp at hu
  subst hu
  exact ⟨a, ha, hv.weaken false, by simpa [cellsBulk] using hb, fun W' sp hk hs => hf W' sp hk hs⟩
theorem Opens.args {fs : Array Field} {α : Type} {en : α → List V} {wf : α → Prop} (ht : P.underlying t = some (.struct fs)) (h : Opens P t en wf)
    {H : Type} {e : TypeId × Value → H} {W : World} {base : Nat} {v : Value} {d : DataW H} {ps : List MemPlace} (hval : Value.okWide P W .any base t v) (hd : DataW.Trod e P W 0 (fun _ => true) true t v d ps) :
    ∃ a, wf a ∧ VR noPlace [] W false (.agg (en a)) v ∧ cellsBulk (en a) ≤ Rows.uptoBulk d ∧ ∀ (W' : World) (sp : Nat → Bool), Keeps W W' → (∀ g, g < W.heap.size → sp g = true) → DataW.Trod e P W' 0 sp true t v d ps := by
  obtain ⟨fuel, hd⟩ := hd
  obtain ⟨a, ha, hc, hb, hf⟩ := h H e W fuel _ _ hd
  unfold Value.okWide at hval
  rw [ht] at hval
  obtain ⟨cs, rfl, _, _⟩ := hval
  refine ⟨a, ha, .agg' (by simpa [Value.cells] using hc.1) (fun j x hj => ?_), hb, fun W' sp hk hs => hf W' sp hk hs⟩
  obtain ⟨u, hu, hv, _⟩ := hc.2 j x hj
  exact ⟨u, by simpa [Value.cells] using hu, hv.weaken false⟩
theorem law_post {H : Type} {enc : TypeId × Value → H} {fn : Func} {s : ChangeSpec} {W W' : World} {args : Array Value} {ds gs : List (DataW H)} {before : List MemPlace} {ρ' : Place} {S' : Store} {tb : TypeId}
    (hW : DataW.Whole enc P fn.params.toList s.vars false W args.toList ds gs before) (hx : Ext noPlace [] W ρ' S' W') (hv : s.vars = []) (hr : fn.resultTypes = #[tb]) (htb : P.underlying tb = some .bool)
    (hres : (s.fn H (ds ++ gs)).results = [.lit (.bool true)]) (hargs : (s.fn H (ds ++ gs)).args = ds) (hvars : (s.fn H (ds ++ gs)).vars = [])
    (hf : ∃ pa, DataW.TrodAll enc P W' 0 (fun b => decide (b < W.heap.size)) true fn.params.toList args.toList ds pa) :
    s.post enc P fn false true false false W args (.bool true) W' := by
  obtain ⟨pa, hpa⟩ := hf
  have hk : Keeps W W' := fun g hg => (hx.un g (un_none hg)).2
  refine ⟨ds, gs, before, [], pa, [], hW, ?_, by rw [hargs]; exact hpa, by rw [hv, hvars]; rfl, ⟨hx.os, hx.output, fun i hi => ?_⟩, fun h => by cases h⟩
  · rw [hres, hr]
    exact trodAll_cons_mk (p := []) (p' := []) (shut_bool htb _) trodAll_mk0
  · rw [hk i hi]
    cases hb : W.heap[i]? with
    | none => simp
    | some o => cases o <;> simp
def TabW (W : World) : Prop := ∀ p ∈ tabs, p.1 < W.heap.size ∧ ∃ t fr, W.heap[p.1]? = some (.cells p.2 t fr)
theorem TabW.ok {W : World} (h : TabW W) : TabOk noPlace [] W := fun p hp => by
  obtain ⟨a, b⟩ := h p hp
  exact ⟨⟨a, fun id o c g tot hs => by simp at hs⟩, b⟩
theorem calls_law {H : Type} {enc : TypeId × Value → H} {f : FuncId} {fn : Func} {s : ChangeSpec} {W : World} {args : Array Value} {ds gs : List (DataW H)} {before : List MemPlace} {tb : TypeId} {vargs : List V}
    (hc : CallA P f vargs [] fun r _ => r = .bool true) (ha : VRs noPlace [] W vargs args) (ht : TabW W)
    (hW : DataW.Whole enc P fn.params.toList s.vars false W args.toList ds gs before) (hv : s.vars = []) (hr : fn.resultTypes = #[tb]) (htb : P.underlying tb = some .bool)
    (hres : (s.fn H (ds ++ gs)).results = [.lit (.bool true)]) (hargs : (s.fn H (ds ++ gs)).args = ds) (hvars : (s.fn H (ds ++ gs)).vars = [])
    (hf : ∀ (W' : World) (sp : Nat → Bool), Keeps W W' → (∀ g, g < W.heap.size → sp g = true) → ∃ pa, DataW.TrodAll enc P W' 0 sp true fn.params.toList args.toList ds pa) :
    Calls P f args W fun e W' => ∃ v, e = .returned v ∧ s.post enc P fn false true false false W args v W' := by
  refine (hc.2 noPlace W args ⟨fun id ver e sz rows h => by simp at h, fun i j o p c d g x y h => by simp at h, fun id ver rows h => by simp at h, ht.ok⟩ ha).mono fun en W' ⟨ρ', S', r, u, h1, h2, h3, h4, h5⟩ => ?_
  subst h5
  have := h2.bool_inv
  subst this
  exact ⟨_, h1, law_post hW h4 hv hr htb hres hargs hvars (hf W' _ (fun g hg => (h4.un g (un_none hg)).2) fun g hg => by simpa using hg)⟩
theorem VRs.nil {ρ : Place} {S : Store} {w : World} : VRs ρ S w [] #[] := ⟨rfl, fun j v h => by simp at h⟩
theorem VRs.of {ρ : Place} {S : Store} {w : World} {vs : List V} {us : List Value} (hl : vs.length = us.length) (h : ∀ (j : Nat) (v : V) (u : Value), vs[j]? = some v → us[j]? = some u → VR ρ S w false v u) : VRs ρ S w vs us.toArray :=
  ⟨by simpa using hl.symm, fun j v hj => by
    have hlt := (List.getElem?_eq_some_iff.1 hj).1
    have hu := List.getElem?_eq_getElem (l := us) (i := j) (by omega)
    exact ⟨us[j], by simp [hlt, ← hl], h j v _ hj hu⟩⟩
end
end Go.AL
/- Data of a type that holds itself: opened by its size. -/
namespace Go.AL
set_option linter.unusedSectionVars false
set_option linter.unusedSimpArgs false
set_option linter.unusedVariables false
variable [Mode]
open Go.Proofs.YtkdbghhdklfoiaaDoor Go.ChangeShapes Go.WideShapes Go.ChangeAt Go.RowKit
def OpensB (B : Nat) (P : Program) (t : TypeId) {α : Type} (en : α → List V) (wf : α → Prop) : Prop :=
  ∀ (H : Type) (e : TypeId × Value → H) (W : World) (fuel : Nat) (cs : List Value) (x : DataW H × List MemPlace), SizeOf.sizeOf x.1 ≤ B → DataW.trod e P W 0 (fun _ => true) true fuel t cs = some x →
    ∃ a, wf a ∧ CsR W (en a) cs ∧ cellsBulk (en a) ≤ Rows.uptoBulk x.1 ∧
      ∀ (W' : World) (sp : Nat → Bool), Keeps W W' → (∀ g, g < W.heap.size → sp g = true) → ∃ n, DataW.trod e P W' 0 sp true n t cs = some x
section
variable {P : Program} {t q : TypeId} {B : Nat}
theorem OpensB.mono {α : Type} {en : α → List V} {wf : α → Prop} {C : Nat} (h : OpensB B P t en wf) (hC : C ≤ B) : OpensB C P t en wf := fun H e W fuel cs x hf hx => h H e W fuel cs x (Nat.le_trans hf hC) hx
theorem dw_pos {H : Type} (d : DataW H) : 0 < SizeOf.sizeOf d := by cases d <;> simp <;> omega
theorem OpensB.zero {α : Type} {en : α → List V} {wf : α → Prop} : OpensB 0 P t en wf := by
  intro H e W fuel cs x hf h
  have := dw_pos x.1
  omega
theorem OpensB.slice {α : Type} {en : α → List V} {wf : α → Prop} {sz : Nat} (ht : P.underlying t = some (.slice q)) (hsz : P.cellsOf q = sz) (hp : 0 < sz) (hl0 : ∀ a, (en a).length = sz) {B : Nat} (hq : OpensB B P q en wf) :
    OpensB (B + 1) P t (fun l : List α => [.sl sz (l.map en)]) (fun l => ∀ a ∈ l, wf a) := by
  intro H e W fuel cs x hB h
  rcases Deep.open_slice ht h with ⟨rfl, rfl⟩ | ⟨a, len, cap, m, n, D, Pl, rfl, hnf, hl, hm, hmm, rfl, hx⟩
  · exact ⟨[], by simp, CsR.one .slNil rfl, by simp [V.bulk, cellsBulk, rowsBulk, Rows.uptoBulk], fun W' sp _ _ => ⟨1, by simp [DataW.trod, ht]⟩⟩
  simp only [if_true] at hmm
  subst hmm
  by_cases hc0 : m = 0
  · subst hc0
    have hl0 : len = 0 := by omega
    subst hl0
    exact ⟨[], by simp, CsR.one .slNil rfl, by simp [V.bulk, cellsBulk, rowsBulk, Rows.uptoBulk], fun W' sp _ _ => ⟨1, by simp [DataW.trod, ht, MemPlace.row]⟩⟩
  · have key : ∀ i, i < m → ∃ y : α, wf y ∧ cellsBulk (en y) ≤ Rows.uptoBulk (D i) ∧ (∀ (j : Nat) (v : V), (en y)[j]? = some v → ∃ u, W.cell? ⟨a.block, a.off + (i * sz + j), none⟩ = some u ∧ VR noPlace [] W true v u ∧ u.oneCell' = true) ∧
        a.block < W.heap.size ∧ (i = 0 → a.spot = none) ∧
        ∀ (W' : World) (sp : Nat → Bool), Keeps W W' → (∀ g, g < W.heap.size → sp g = true) → ∃ cs' n, W'.cells? 0 (a.add (i * P.cellsOf q)) (P.cellsOf q) = some cs' ∧ DataW.trod e P W' 0 sp true n q cs' = some (D i, Pl i) := by
      intro i hi
      obtain ⟨cs', h1, h2⟩ := hx i hi
      obtain ⟨y, hy, hr, hb, hf⟩ := hq H e W n cs' (D i, Pl i) (by
        have hmem : D i ∈ (List.range len).map D ∨ D i ∈ (List.range (m - len)).map fun j => D (len + j) := by
          by_cases hil : i < len
          · exact .inl (List.mem_map.2 ⟨i, List.mem_range.2 hil, rfl⟩)
          · exact .inr (List.mem_map.2 ⟨i - len, List.mem_range.2 (by omega), by rw [Nat.add_sub_cancel' (by omega)]⟩)
        have hsz1 : SizeOf.sizeOf (D i) < SizeOf.sizeOf (DataW.slice ((List.range len).map D) ((List.range (m - len)).map fun j => D (len + j))) := by
          rcases hmem with h | h
          · have := List.sizeOf_lt_of_mem h
            simp only [DataW.slice.sizeOf_spec]
            omega
          · have := List.sizeOf_lt_of_mem h
            simp only [DataW.slice.sizeOf_spec]
            omega
        simp only at hB ⊢
        omega) h2
      obtain ⟨_, hlen, hcell⟩ := World.cells?_some h1
      have hcs : ∀ j u, cs'[j]? = some u → W.cell? (a.add (i * sz + j)) = some u := by
        intro j u hu
        have hj : j < P.cellsOf q := by rw [← hlen]; exact (List.getElem?_eq_some_iff.1 hu).1
        have := hcell j hj
        rw [Deep.add_add, hu, hsz] at this
        exact this
      have h0 : ∃ u, cs'[0]? = some u := ⟨cs'[0]'(by omega), List.getElem?_eq_getElem (by omega)⟩
      obtain ⟨u0, hu0⟩ := h0
      have hblk := cell_at (hcs 0 u0 hu0)
      refine ⟨y, hy, hb, fun j v hj => ?_, hblk.2.1, fun hi0 => hblk.2.2 (by subst hi0; simp), fun W' sp hk hs => ?_⟩
      · obtain ⟨u, hu, hv, h3⟩ := hr.2 j v hj
        exact ⟨u, (cell_at (hcs j u hu)).1, hv, h3⟩
      · obtain ⟨n', hn'⟩ := hf W' sp hk hs
        refine ⟨cs', n', ?_, hn'⟩
        rw [← h1]
        have hadd : ∀ (x : Addr) (k : Nat), (x.add k).block = x.block := fun x k => by unfold Addr.add; split <;> rfl
        have hce : ∀ k, W'.cell? ((a.add (i * P.cellsOf q)).add k) = W.cell? ((a.add (i * P.cellsOf q)).add k) := fun k => by
          unfold World.cell?
          rw [hadd, hadd, hk _ hblk.2.1]
        unfold World.cells?
        simp only [hce]
    obtain ⟨all, hal, hall⟩ := list_of m key
    obtain ⟨y0, _, _, _, hblk, hspot, _⟩ := key 0 (by omega)
    have ha : a = ⟨a.block, a.off, none⟩ := by
      have := hspot rfl
      cases a
      simp_all
    have hget : ∀ i y, (all.take len)[i]? = some y → i < len ∧ all[i]? = some y := by
      intro i y hy
      rw [List.getElem?_take] at hy
      split at hy
      · rename_i h1; exact ⟨h1, hy⟩
      · cases hy
    have hrow : ∀ (i : Nat) (r : List V), ((all.take len).map en)[i]? = some r → ∃ y, all[i]? = some y ∧ r = en y := by
      intro i r hr
      simp only [List.getElem?_map, Option.map_eq_some_iff] at hr
      obtain ⟨y, hy, rfl⟩ := hr
      exact ⟨y, (hget i y hy).2, rfl⟩
    refine ⟨all.take len, fun y hy => ?_, ?_, ?_, fun W' sp hk hs => ?_⟩
    · obtain ⟨i, hi⟩ := List.getElem?_of_mem hy
      exact (hall i y (hget i y hi).2).1
    · refine CsR.one ?_ rfl
      rw [ha]
      refine .sl (fun i j => (W.cell? ⟨a.block, a.off + (i * sz + j), none⟩).getD Go.undef) (un_none hblk) (by simp; omega) hl hm (fun i r hr => ?_) (fun i r hr j v hj => ?_) (fun i r hr j v hj => ?_) (fun i r hr j v hj => ?_)
      · obtain ⟨y, _, rfl⟩ := hrow i r hr
        exact hl0 y
      all_goals
        obtain ⟨y, hy, rfl⟩ := hrow i r hr
        obtain ⟨u, h1, h2, h3⟩ := (hall i y hy).2.2.1 j v hj
        simp only [h1, Option.getD_some]
        try assumption
    · have := rowsBulk_le (en := en) (all.take len) ((List.range len).map D) (by simp; omega) fun i y d hy hd => by
        obtain ⟨h1, h2⟩ := hget i y hy
        simp only [List.getElem?_map, List.getElem?_range h1, Option.map_some, Option.some.injEq] at hd
        subst hd
        exact (hall i y h2).2.1
      simp only [V.bulk, cellsBulk, Rows.uptoBulk]
      omega
    · exact Deep.shut_slice_whole_cells ht (Nat.zero_le _) hl hm (hs _ hblk) D Pl fun i hi => (by
        obtain ⟨y, _, _, _, _, _, hf⟩ := key i hi
        exact hf W' sp hk hs)
def OpensLB (B : Nat) (P : Program) (ts : List TypeId) {α : Type} (en : α → List V) (wf : α → Prop) : Prop :=
  ∀ (H : Type) (e : TypeId × Value → H) (W : World) (css : List (List Value)) (xs : List (DataW H × List MemPlace)), css.length = ts.length → xs.length = ts.length →
    (∀ (i : Nat) (t : TypeId) (cs : List Value) (x : DataW H × List MemPlace), ts[i]? = some t → css[i]? = some cs → xs[i]? = some x → SizeOf.sizeOf x.1 ≤ B ∧ ∃ n, DataW.trod e P W 0 (fun _ => true) true n t cs = some x) →
    ∃ a, wf a ∧ CsR W (en a) css.flatten ∧ cellsBulk (en a) ≤ Rows.uptoBulkAll (xs.map (·.1)) ∧
      ∀ (W' : World) (sp : Nat → Bool), Keeps W W' → (∀ g, g < W.heap.size → sp g = true) →
        ∀ (i : Nat) (t : TypeId) (cs : List Value) (x : DataW H × List MemPlace), ts[i]? = some t → css[i]? = some cs → xs[i]? = some x → ∃ n, DataW.trod e P W' 0 sp true n t cs = some x
theorem OpensLB.nil : OpensLB B P [] (fun _ : Unit => []) (fun _ => True) := by
  intro H e W css xs h1 h2 _
  rw [List.length_eq_zero_iff.1 h1, List.length_eq_zero_iff.1 h2]
  exact ⟨(), trivial, ⟨rfl, by simp⟩, by simp [cellsBulk], fun W' sp _ _ i t cs x h => by simp at h⟩
theorem OpensLB.cons {ts : List TypeId} {α β : Type} {en : α → List V} {wf : α → Prop} {en' : β → List V} {wf' : β → Prop} (h : OpensB B P t en wf) (hr : OpensLB B P ts en' wf') :
    OpensLB B P (t :: ts) (fun p : α × β => en p.1 ++ en' p.2) (fun p => wf p.1 ∧ wf' p.2) := by
  intro H e W css xs h1 h2 hx
  match css, xs, h1, h2 with
  | cs :: css, x :: xs, h1, h2 =>
    obtain ⟨hnB, n, hn⟩ := hx 0 t cs x rfl rfl rfl
    obtain ⟨a, ha, hc, hb, hf⟩ := h H e W n cs x hnB hn
    obtain ⟨b, hb1, hb2, hb3, hb4⟩ := hr H e W css xs (by simpa using h1) (by simpa using h2) fun i t cs x ht hcs hxs => hx (i + 1) t cs x (by simpa using ht) (by simpa using hcs) (by simpa using hxs)
    refine ⟨(a, b), ⟨ha, hb1⟩, by simpa using hc.append hb2, by simp only [cellsBulk_append, List.map_cons, Rows.uptoBulkAll]; omega, fun W' sp hk hs i t' cs' x' ht hcs hxs => ?_⟩
    cases i with
    | zero => simp at ht hcs hxs; subst ht hcs hxs; exact hf W' sp hk hs
    | succ i => exact hb4 W' sp hk hs i t' cs' x' (by simpa using ht) (by simpa using hcs) (by simpa using hxs)
theorem OpensLB.one {α : Type} {en : α → List V} {wf : α → Prop} (h : OpensB B P t en wf) : OpensLB B P [t] en wf := by
  intro H e W css xs h1 h2 hx
  obtain ⟨p, hp, hc, hb, hf⟩ := OpensLB.cons h OpensLB.nil H e W css xs h1 h2 hx
  exact ⟨p.1, hp.1, by simpa using hc, by simpa using hb, hf⟩
theorem OpensB.struct {fs : Array Field} {α : Type} {en : α → List V} {wf : α → Prop} (ht : P.underlying t = some (.struct fs)) (hl : layB P fs.toList 0 = some (P.cellsOf t)) (h : OpensLB B P (fs.toList.map (·.type)) en wf) : OpensB (B + 1) P t en wf := by
  intro H e W fuel cs x hB hx
  obtain ⟨xs, n, hnf, rfl, hlen, hxl, hf⟩ := DataW.trod_struct ht hx
  have hflat := (layB_flat fs.toList 0 _ cs hl hlen).2
  rw [List.drop_zero] at hflat
  have hxl' : xs.length = fs.toList.length := by simpa using hxl
  obtain ⟨a, ha, hc, hb, hfr⟩ := h H e W (fs.toList.map fun f => (cs.drop f.offset).take (P.cellsOf f.type)) xs (by simp) (by simpa using hxl') fun i t' cs' x' h1 h2 h3 => by
    simp only [List.getElem?_map, Option.map_eq_some_iff] at h1 h2
    obtain ⟨f, hf1, rfl⟩ := h1
    obtain ⟨f', hf2, rfl⟩ := h2
    rw [hf1] at hf2
    cases hf2
    refine ⟨?_, n, ?_⟩
    · have hm : x'.1 ∈ xs.map (·.1) := List.mem_map_of_mem (List.mem_of_getElem? h3)
      have h9 := List.sizeOf_lt_of_mem hm
      simp only [DataW.agg.sizeOf_spec] at hB
      omega
    rw [hf i f (by simpa using hf1)]
    exact h3
  refine ⟨a, ha, by rw [← hflat]; exact hc, by simp only [Rows.uptoBulk]; omega, fun W' sp hk hs => ?_⟩
  have hall : ∀ i, i < fs.toList.length → ∃ m, ∀ f x', fs.toList[i]? = some f → xs[i]? = some x' → DataW.trod e P W' 0 sp true m f.type ((cs.drop f.offset).take (P.cellsOf f.type)) = some x' := by
    intro i hi
    have h1 : fs.toList[i]? = some fs.toList[i] := List.getElem?_eq_getElem hi
    have h2 : xs[i]? = some xs[i] := List.getElem?_eq_getElem (by omega)
    obtain ⟨m, hm⟩ := hfr W' sp hk hs i fs.toList[i].type ((cs.drop fs.toList[i].offset).take (P.cellsOf fs.toList[i].type)) xs[i] (by simp only [List.getElem?_map, h1, Option.map_some]) (by simp only [List.getElem?_map, h1, Option.map_some]) h2
    refine ⟨m, fun f x' hf1 hx1 => ?_⟩
    rw [h1] at hf1
    rw [h2] at hx1
    cases hf1
    cases hx1
    exact hm
  obtain ⟨m, hm⟩ := Deep.fuel_lt (q := fun i m => ∀ f x', fs.toList[i]? = some f → xs[i]? = some x' → DataW.trod e P W' 0 sp true m f.type ((cs.drop f.offset).take (P.cellsOf f.type)) = some x')
    (fun i a b hab hq f x' h1 h2 => DataW.trod_le hab (hq f x' h1 h2)) hall
  exact ⟨m + 1, trod_struct_mk ht hlen (mapM_some _ _ hxl'.symm fun i f x' h1 h2 => hm i (List.getElem?_eq_some_iff.1 h1).1 f x' h1 h2)⟩
theorem OpensB.as {α β : Type} {en : α → List V} {wf : α → Prop} (h : OpensB B P t en wf) (en' : β → List V) (wf' : β → Prop) (f : α → β) (he : ∀ a, en' (f a) = en a) (hw : ∀ a, wf a → wf' (f a)) : OpensB B P t en' wf' := by
  intro H e W fuel cs x hB hx
  obtain ⟨a, ha, hc, hb, hf⟩ := h H e W fuel cs x hB hx
  exact ⟨f a, hw a ha, by rw [he]; exact hc, by rw [he]; exact hb, hf⟩
end
end Go.AL
/- The road from a contract to a row, argument by argument; how long what was read can be. -/
namespace Go.AL
set_option linter.unusedSectionVars false
variable [Mode]
set_option linter.unusedSimpArgs false
set_option linter.unusedVariables false
open Go.Proofs.YtkdbghhdklfoiaaDoor Go.ChangeShapes Go.WideShapes Go.ChangeAt Go.RowKit
section
variable {P : Program} {t : TypeId} {ts : List TypeId}
def ArgOpen (P : Program) (t : TypeId) {α : Type} (mk : α → V) (wf : α → Prop) : Prop :=
  ∀ (H : Type) (e : TypeId × Value → H) (W : World) (base : Nat) (v : Value) (d : DataW H) (ps : List MemPlace), Value.okWide P W .any base t v → DataW.Trod e P W 0 (fun _ => true) true t v d ps →
    ∃ a, wf a ∧ VR noPlace [] W false (mk a) v ∧ (mk a).bulk ≤ Rows.uptoBulk d ∧ ∀ (W' : World) (sp : Nat → Bool), Keeps W W' → (∀ g, g < W.heap.size → sp g = true) → DataW.Trod e P W' 0 sp true t v d ps
theorem Opens.argOpen {α : Type} {mk : α → V} {wf : α → Prop} (h : Opens P t (fun a => [mk a]) wf) (hk : (match P.underlying t with | some .bool | some (.int _) | some .string | some (.slice _) => true | _ => false) = true) : ArgOpen P t mk wf :=
  fun _ _ _ _ _ _ _ hval hd => h.arg hk hval hd
theorem Opens.argsOpen {fs : Array Field} {α : Type} {en : α → List V} {wf : α → Prop} (ht : P.underlying t = some (.struct fs)) (h : Opens P t en wf) : ArgOpen P t (fun a => .agg (en a)) wf :=
  fun _ _ _ _ _ _ _ hval hd => h.args ht hval hd
def ArgsOpen (P : Program) (ts : List TypeId) {α : Type} (en : α → List V) (wf : α → Prop) : Prop :=
  ∀ (H : Type) (e : TypeId × Value → H) (W : World) (base : Nat) (vs : List Value) (ds : List (DataW H)) (ps : List MemPlace), (∀ (j : Nat) (t : TypeId) (v : Value), ts[j]? = some t → vs[j]? = some v → Value.okWide P W .any base t v) →
    DataW.TrodAll e P W 0 (fun _ => true) true ts vs ds ps →
    ∃ a, wf a ∧ (en a).length = vs.length ∧ ds.length = ts.length ∧ (∀ (j : Nat) (x : V) (u : Value), (en a)[j]? = some x → vs[j]? = some u → VR noPlace [] W false x u) ∧ cellsBulk (en a) ≤ Rows.uptoBulkAll ds ∧
      ∀ (W' : World) (sp : Nat → Bool), Keeps W W' → (∀ g, g < W.heap.size → sp g = true) → DataW.TrodAll e P W' 0 sp true ts vs ds ps
theorem ArgsOpen.nil : ArgsOpen P [] (fun _ : Unit => []) (fun _ => True) := by
  intro H e W base vs ds ps _ h
  obtain ⟨rfl, rfl, rfl⟩ := trodAll_nil h
  exact ⟨(), trivial, rfl, rfl, fun j x u hx => by simp at hx, by simp [cellsBulk, Rows.uptoBulkAll], fun _ _ _ _ => trodAll_mk0⟩
theorem ArgsOpen.cons {α β : Type} {mk : α → V} {wf : α → Prop} {en : β → List V} {wf' : β → Prop} (h : ArgOpen P t mk wf) (k : ArgsOpen P ts en wf') : ArgsOpen P (t :: ts) (fun p : α × β => mk p.1 :: en p.2) (fun p => wf p.1 ∧ wf' p.2) := by
  intro H e W base vs ds ps hval htr
  obtain ⟨v, vs', d, ds', p, q, rfl, rfl, rfl, h0, r0⟩ := trodAll_cons htr
  obtain ⟨a, a1, a2, a3, a4⟩ := h H e W base v d p (hval 0 t v rfl rfl) h0
  obtain ⟨b, b1, b2, b3, b4, b5, b6⟩ := k H e W base vs' ds' q (fun j t' v' ht hv => hval (j + 1) t' v' (by simpa using ht) (by simpa using hv)) r0
  refine ⟨(a, b), ⟨a1, b1⟩, by simp [b2], by simp [b3], fun j x u hx hu => ?_, by simp only [cellsBulk, Rows.uptoBulkAll]; omega, fun W' sp hk hs => trodAll_cons_mk (a4 W' sp hk hs) (b6 W' sp hk hs)⟩
  cases j with
  | zero => simp at hx hu; subst hx hu; exact a2
  | succ j => exact b4 j x u (by simpa using hx) (by simpa using hu)
theorem law_contract {α : Type} {en : α → List V} {wf : α → Prop} {f : FuncId} {fn : Func} {s : ChangeSpec} {tb : TypeId} (ho : ArgsOpen P fn.params.toList en wf)
    (hcall : ∀ a, wf a → cellsBulk (en a) ≤ 1048576 → CallA P f (en a) [] fun r _ => r = .bool true)
    (hv : s.vars = []) (hr : fn.resultTypes = #[tb]) (htb : P.underlying tb = some .bool)
    (hsp : ∀ (H : Type) (ds : List (DataW H)), ds.length = fn.params.toList.length → (s.fn H ds).results = [.lit (.bool true)] ∧ (s.fn H ds).args = ds ∧ (s.fn H ds).vars = [])
    {H : Type} {enc : TypeId × Value → H} {W : World} {base : Nat} {args : Array Value} {ds gs : List (DataW H)} {before : List MemPlace}
    (hval : ∀ (j : Nat) t v, fn.params[j]? = some t → args[j]? = some v → Value.okWide P W .any base t v)
    (hW : DataW.Whole enc P fn.params.toList s.vars false W args.toList ds gs before) (hk : Rows.uptoSmall H (ds ++ gs) = true) (ht : TabW W := by intro p hp; cases hp) :
    Calls P f args W fun e W' => ∃ v, e = .returned v ∧ s.post enc P fn false true false false W args v W' := by
  have hW' := hW
  obtain ⟨p, q, hA0, hV, rfl, hfz, hnd⟩ := hW
  have hA : DataW.TrodAll enc P W 0 (fun _ => true) true fn.params.toList args.toList ds p := hA0
  rw [hv] at hV
  obtain ⟨rfl, rfl⟩ := trodVars_none hV
  rw [List.append_nil] at hk
  obtain ⟨a, a1, a2, a3, a4, a5, a6⟩ := ho H enc W base args.toList ds p (fun j t v ht hv => hval j t v (by simpa using ht) (by simpa using hv)) hA
  have hb : Rows.uptoBulkAll ds ≤ 1048576 := of_decide_eq_true hk
  obtain ⟨s1, s2, s3⟩ := hsp H ds a3
  refine calls_law (hcall a a1 (by omega)) ?_ ht hW' hv hr htb (by rw [List.append_nil]; exact s1) (by rw [List.append_nil]; exact s2) (by rw [List.append_nil]; exact s3) fun W' sp hk hs => ⟨p, a6 W' sp hk hs⟩
  have := VRs.of (ρ := noPlace) (S := []) (w := W) a2 a4
  simpa using this
end
end Go.AL
