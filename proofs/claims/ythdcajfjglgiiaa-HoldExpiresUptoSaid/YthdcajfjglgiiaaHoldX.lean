/- slices.AppendSeq over maps.Values, over the store: the walk in memory carried over. -/
import Derived.Test.YthdcajfjglgiiaaAlW
import Derived.Test.YthdcajfjglgiiaaHoldW
import Derived.Test.YthdcajfjglgiiaaHoldC
namespace Go.Proofs.Ythdcajfjglgiiaa
open Go Go.AL
set_option linter.unusedSectionVars false
variable [Go.AL.Mode] [Go.AL.LooseM]
set_option linter.unusedSimpArgs false
set_option linter.unusedVariables false

theorem perm_lift {α β : Type} (f : α → β) {l m : List β} (h : l.Perm m) : ∀ zs : List α, m = zs.map f → ∃ zs' : List α, zs'.Perm zs ∧ l = zs'.map f := by
  induction h with
  | nil => intro zs hz; cases zs with
    | nil => exact ⟨[], .nil, rfl⟩
    | cons a b => cases hz
  | cons x h ih =>
    intro zs hz
    cases zs with
    | nil => cases hz
    | cons z zs =>
      simp only [List.map_cons, List.cons.injEq] at hz
      obtain ⟨zs', h1, h2⟩ := ih zs hz.2
      exact ⟨z :: zs', h1.cons z, by rw [List.map_cons, ← h2, hz.1]⟩
  | swap x y l =>
    intro zs hz
    match zs, hz with
    | a :: b :: zs, hz =>
      simp only [List.map_cons, List.cons.injEq] at hz
      exact ⟨b :: a :: zs, List.Perm.swap _ _ _, by rw [List.map_cons, List.map_cons, hz.1, hz.2.1, hz.2.2]⟩
  | trans h1 h2 ih1 ih2 =>
    intro zs hz
    obtain ⟨zs', h3, h4⟩ := ih2 zs hz
    obtain ⟨zs2, h5, h6⟩ := ih1 zs' h4
    exact ⟨zs2, h5.trans h3, h6⟩

theorem flat_at {α : Type} (n : Nat) : ∀ (L : List (List α)), (∀ r ∈ L, r.length = n) → ∀ (i : Nat) (r : List α), L[i]? = some r → ∀ j, j < n → L.flatten[i * n + j]? = r[j]?
  | [], _, i, r, h, _, _ => by simp at h
  | x :: L, hl, i, r, h, j, hj => by
    have hx := hl x (List.mem_cons_self ..)
    rw [List.flatten_cons]
    cases i with
    | zero =>
      simp only [List.getElem?_cons_zero, Option.some.injEq] at h
      subst h
      rw [Nat.zero_mul, Nat.zero_add, List.getElem?_append_left (by omega)]
    | succ i =>
      simp only [List.getElem?_cons_succ] at h
      rw [List.getElem?_append_right (by rw [hx, Nat.succ_mul]; omega), hx, Nat.succ_mul, show i * n + n + j - n = i * n + j by omega]
      exact flat_at n L (fun r hr => hl r (List.mem_cons_of_mem _ hr)) i r h j hj

def cellsV : V → List V
  | .agg vs => vs
  | _ => []
/-- A hold, as a value. -/
def HdV (v : V) : Prop := ∃ a b c d e : V, v = .agg [a, b, c, d, e] ∧ a.cellOk = true ∧ b.cellOk = true ∧ c.cellOk = true ∧ d.cellOk = true ∧ e.cellOk = true

theorem HdV.isHd {ρ : AL.Place} {S : Store} {w : World} {v : V} {u : Value} (h : HdV v) (hr : VR ρ S w false v u) : IsHd u := by
  obtain ⟨a, b, c, d, e, rfl, h1, h2, h3, h4, h5⟩ := h
  obtain ⟨us, rfl, hs, hc⟩ := hr.agg_inv
  obtain ⟨x0, k0, r0⟩ := hc 0 _ rfl
  obtain ⟨x1, k1, r1⟩ := hc 1 _ rfl
  obtain ⟨x2, k2, r2⟩ := hc 2 _ rfl
  obtain ⟨x3, k3, r3⟩ := hc 3 _ rfl
  obtain ⟨x4, k4, r4⟩ := hc 4 _ rfl
  refine ⟨x0, x1, x2, x3, x4, ?_, r0.one h1, r1.one h2, r2.one h3, r3.one h4, r4.one h5⟩
  congr 1
  apply Array.ext_getElem?
  intro i
  match i with
  | 0 => rw [k0]; rfl
  | 1 => rw [k1]; rfl
  | 2 => rw [k2]; rfl
  | 3 => rw [k3]; rfl
  | 4 => rw [k4]; rfl
  | i + 5 => rw [Array.getElem?_eq_none_iff.2 (by simp at hs; omega), Array.getElem?_eq_none_iff.2 (by simp)]

theorem HdV.cells {ρ : AL.Place} {S : Store} {w : World} {v : V} {u : Value} (h : HdV v) (hr : VR ρ S w false v u) : (cellsV v).length = 5 ∧ (aggC u).length = 5 ∧ ∀ (j : Nat) (y : V), (cellsV v)[j]? = some y → ∃ x, (aggC u)[j]? = some x ∧ VR ρ S w false y x ∧ x.oneCell' = true := by
  obtain ⟨a, b, c, d, e, rfl, h1, h2, h3, h4, h5⟩ := h
  obtain ⟨us, rfl, hs, hc⟩ := hr.agg_inv
  refine ⟨rfl, by simp only [aggC, Array.length_toList, hs]; rfl, fun j y hj => ?_⟩
  obtain ⟨x, k, r⟩ := hc j y hj
  refine ⟨x, by simpa [aggC] using k, r, r.one ?_⟩
  match j, hj with
  | 0, hj => simp [cellsV] at hj; subst hj; exact h1
  | 1, hj => simp [cellsV] at hj; subst hj; exact h2
  | 2, hj => simp [cellsV] at hj; subst hj; exact h3
  | 3, hj => simp [cellsV] at hj; subst hj; exact h4
  | 4, hj => simp [cellsV] at hj; subst hj; exact h5

/-- All the map's values, each once, in some order. -/
theorem appendSeq_A (S : Store) (bid mid mver : Nat) (t : TypeId) (rows : List (V × V)) (hb : S.obj? bid 0 = some (t, 1, [[.mapv mid mver]])) (hm : S.mp? mid mver = some (.one (.int .i64), rows, .free))
    (hv : ∀ p ∈ rows, HdV p.2) (hl : rows.length ≤ 1000000) :
    CallA Try.prog 44 [.nilSl, .func 41 [] [.ptr bid 0 0 0]] S fun r S' => ∃ l : List V, l.Perm (rows.map (·.2)) ∧ ((l = [] ∧ r = .nilSl ∧ S' = S) ∨ (l ≠ [] ∧ r = .msl S.length 0 0 l.length ∧ S' = S ++ [⟨0, some (.arr 31 5 (l.map cellsV))⟩])) := by
  refine ⟨⟨Try.f44, Try.func44, by kernel_rfl, by kernel_rfl⟩, fun ρ w us hi hvs => ?_⟩
  obtain ⟨h2, hvs⟩ := hvs
  obtain ⟨u0, e0, r0⟩ := hvs 0 _ rfl
  obtain ⟨u1, e1, r1⟩ := hvs 1 _ rfl
  have hus : us = #[u0, u1] := by
    apply Array.ext_getElem?
    intro i
    match i with
    | 0 => rw [e0]; rfl
    | 1 => rw [e1]; rfl
    | i + 2 => rw [Array.getElem?_eq_none_iff.2 (by simp at h2; omega), Array.getElem?_eq_none_iff.2 (by simp)]
  cases r0
  obtain ⟨ub, rfl, rb⟩ : ∃ ub, u1 = .func (.func 41) #[] #[ub] ∧ VR ρ S w false (.ptr bid 0 0 0) ub := by
    cases r1 with
    | @func _ _ _ _ a b c d hl1 hl2 _ _ hd hw =>
      refine ⟨d 0, ?_, hw 0 _ rfl⟩
      have ea : a = #[] := Array.eq_empty_of_size_eq_zero (by simpa using hl1)
      have eb : b = #[d 0] := by
        apply Array.ext_getElem?
        intro i
        match i with
        | 0 => rw [hd 0 _ rfl]; rfl
        | i + 1 => rw [Array.getElem?_eq_none_iff.2 (by simp at hl2; omega), Array.getElem?_eq_none_iff.2 (by simp)]
      rw [ea, eb]
  obtain ⟨gB, tot, hgB, rfl⟩ := rb.ptr_inv hb
  obtain ⟨cur, b1, b2, b3, b4, b5, b6⟩ := owned_block hi hb hgB
  obtain ⟨um, hum, hrm, _⟩ := b6 0 _ rfl 0 _ rfl
  obtain ⟨gm, hgm, rfl⟩ := hrm.mapv_inv hm rfl
  obtain ⟨gm', hgm', hHR⟩ := hi.maps mid mver _ (mp_some hm)
  rw [hgm] at hgm'
  cases hgm'
  obtain ⟨es, ck, q1, q2, q3⟩ := hHR
  have hval : ∀ (i : Nat) (e : MapEntry), es[i]? = some e → ∃ k v, rows[i]? = some (k, v) ∧ HdV v ∧ VR ρ S w false v e.val := by
    intro i e he
    have hlt := (Array.getElem?_eq_some_iff.1 he).1
    have hs := q2.1
    simp only at hs
    obtain ⟨⟨k, v⟩, hpr⟩ : ∃ p, rows[i]? = some p := ⟨rows[i]'(by omega), List.getElem?_eq_getElem (by omega)⟩
    obtain ⟨e', a, _, c⟩ := q2.2.2 i k v hpr
    rw [he] at a
    cases a
    exact ⟨k, v, hpr, hv _ (List.mem_of_getElem? hpr), c⟩
  have hE : ∀ x ∈ es.toList, IsHd x.val := fun x hx => by
    obtain ⟨i, hi'⟩ := List.getElem?_of_mem hx
    obtain ⟨k, v, _, h1, h2⟩ := hval i x (by simpa using hi')
    exact h1.isHd h2
  have hcell : w.cell? ⟨gB, 0, none⟩ = some (.map (some gm)) := by
    unfold World.cell?
    rw [b1]
    simpa using hum
  have hes : es.size = rows.length := q2.1
  have hcon := callsIn_wide.1 (seq_in Fence.wide 3 trivial trivial rfl (Nat.le_refl _) gB gm es ck q3.1 q3.2 hE (by unfold maxLen; omega) (by omega) w hcell (Array.getElem?_eq_some_iff.1 b1).1 q1)
  rw [hus]
  simp only [Nat.zero_mul, Nat.zero_add] at hcon ⊢
  refine hcon.mono ?_
  rintro en w' ⟨v, ys, rfl, hown, hnil, hperm, hB⟩
  -- the entries, abstract and in memory
  have hzip : es.toList.map (·.val) = (rows.zip es.toList).map (fun p => p.2.val) := by
    have : (rows.zip es.toList).map Prod.snd = es.toList := List.map_snd_zip (by simp [hes])
    rw [show (fun p : (V × V) × MapEntry => p.2.val) = (fun e => e.val) ∘ Prod.snd from rfl, ← List.map_map, this]
  have hzip1 : rows.map (·.2) = (rows.zip es.toList).map (fun p => p.1.2) := by
    have : (rows.zip es.toList).map Prod.fst = rows := List.map_fst_zip (by simp [hes])
    rw [show (fun p : (V × V) × MapEntry => p.1.2) = (fun e => e.2) ∘ Prod.fst from rfl, ← List.map_map, this]
  obtain ⟨zs, z1, z2⟩ := perm_lift (fun p : (V × V) × MapEntry => p.2.val) hperm _ hzip
  have hz : ∀ z ∈ zs, HdV z.1.2 ∧ VR ρ S w false z.1.2 z.2.val := fun z hz => by
    have hm1 : z ∈ rows.zip es.toList := z1.subset hz
    obtain ⟨i, hi'⟩ := List.getElem?_of_mem hm1
    rw [List.getElem?_zip_eq_some] at hi'
    obtain ⟨k, v, a, b, c⟩ := hval i z.2 (by simpa using hi'.2)
    rw [hi'.1] at a
    cases a' : z.1 with
    | mk k' v' =>
      rw [a'] at a
      cases a
      exact ⟨b, c⟩
  have hyl : ys.length = zs.length := by simpa using congrArg List.length z2
  have hcells : cellsOf ys = (zs.map fun z => aggC z.2.val).flatten := by
    unfold cellsOf
    rw [List.flatMap_def]
    congr 1
    have : ys.map (fun y => aggC y.1) = (ys.map (·.1)).map aggC := by rw [List.map_map]; rfl
    rw [this, z2, List.map_map]
    rfl
  by_cases h0 : ys = []
  · have hv0 := hnil.2 h0
    subst h0 hv0
    have : zs = [] := List.eq_nil_of_length_eq_zero (by simpa using hyl.symm)
    subst this
    refine ⟨ρ, S, .nilSl, _, rfl, .nilSl, inv_below hi hB, ext_below hB, [], ?_, .inl ⟨rfl, rfl, rfl⟩⟩
    rw [hzip1]
    exact z1.map (fun p : (V × V) × MapEntry => p.1.2)
  · have hpos : 0 < ys.length := List.length_pos_iff.2 h0
    have hLR : LR ρ S w 5 ((zs.map fun z => z.1.2).map cellsV) (cellsOf ys) := by
      refine ⟨fun i r hr => ?_, fun i r hr j y hj => ?_⟩
      · simp only [List.map_map, List.getElem?_map, Option.map_eq_some_iff, Function.comp] at hr
        obtain ⟨z, hz', rfl⟩ := hr
        obtain ⟨a, b⟩ := hz z (List.mem_of_getElem? hz')
        exact (a.cells b).1
      · simp only [List.map_map, List.getElem?_map, Option.map_eq_some_iff, Function.comp] at hr
        obtain ⟨z, hz', rfl⟩ := hr
        obtain ⟨a, b⟩ := hz z (List.mem_of_getElem? hz')
        obtain ⟨c1, c2, c3⟩ := a.cells b
        obtain ⟨x, x1, x2, x3⟩ := c3 j y hj
        have hj5 : j < 5 := by have := (List.getElem?_eq_some_iff.1 hj).1; omega
        refine ⟨x, ?_, x2, x3⟩
        rw [hcells, flat_at 5 _ (fun r hr => ?_) i (aggC z.2.val) (by simp [hz']) j hj5]
        · exact x1
        · obtain ⟨z', hz2, rfl⟩ := List.mem_map.1 hr
          obtain ⟨a', b'⟩ := hz z' hz2
          exact (a'.cells b').2.1
    obtain ⟨ρ', i1, i2, i3⟩ := row_obj hi hB hown (rows := (zs.map fun z => z.1.2).map cellsV) (by simp [hyl]) hpos hLR
    refine ⟨ρ', _, _, _, rfl, i3, i1, i2, zs.map fun z => z.1.2, ?_, .inr ⟨?_, by rw [List.length_map, hyl], rfl⟩⟩
    · rw [hzip1]
      exact z1.map (fun p : (V × V) × MapEntry => p.1.2)
    · intro e
      have : zs = [] := by simpa using e
      rw [this] at hyl
      simp at hyl
      exact h0 hyl
end Go.Proofs.Ythdcajfjglgiiaa
