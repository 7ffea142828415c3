/- A link in the store: its two ends; what a call leaves as it was. -/
import Derived.Test.YtlnpfnoemhjheaaGreatDoorMLk0
import Derived.Test.YtlnpfnoemhjheaaGreatDoorMAlM
import Derived.Test.YtlnpfnoemhjheaaGreatDoorMAlX
namespace Go.Proofs.YtlnpfnoemhjheaaGreatDoor
open Go Go.AL
set_option linter.unusedSectionVars false
variable [Go.AL.Mode] [Go.AL.LooseM]
set_option linter.unusedSimpArgs false
set_option linter.unusedVariables false
namespace Lk
theorem dT {p : Prop} [Decidable p] (h : p) : decide p = true := decide_eq_true h
theorem dF {p : Prop} [Decidable p] (h : ¬ p) : decide p = false := decide_eq_false h
theorem obj_set_ne {S : Store} {i j ver : Nat} {o : Go.AL.Obj} (h : i ≠ j) : Store.obj? (S.set j o) i ver = S.obj? i ver := by
  unfold Store.obj?
  rw [List.getElem?_set_ne (fun e => h e.symm)]
def Frm (D : Nat → Prop) (S S' : Store) : Prop := S.length ≤ S'.length ∧ ∀ i, i < S.length → ¬ D i → S'[i]? = S[i]?
theorem Frm.refl (D : Nat → Prop) (S : Store) : Frm D S S := ⟨Nat.le_refl _, fun _ _ _ => rfl⟩
theorem Frm.trans {D : Nat → Prop} {S S' S'' : Store} (h : Frm D S S') (k : Frm D S' S'') : Frm D S S'' :=
  ⟨Nat.le_trans h.1 k.1, fun i hi hd => (k.2 i (by have := h.1; omega) hd).trans (h.2 i hi hd)⟩
theorem Frm.mono {D D' : Nat → Prop} {S S' : Store} (h : Frm D S S') (hd : ∀ i, i < S.length → D i → D' i) : Frm D' S S' :=
  ⟨h.1, fun i hi hn => h.2 i hi fun k => hn (hd i hi k)⟩
theorem Frm.add (D : Nat → Prop) (S X : Store) : Frm D S (S ++ X) := ⟨by simp, fun i hi _ => List.getElem?_append_left hi⟩
theorem Frm.set {D : Nat → Prop} {S S' : Store} (h : Frm D S S') {b : Nat} (hb : b < S.length → D b) (o : Go.AL.Obj) : Frm D S (S'.set b o) :=
  ⟨by rw [List.length_set]; exact h.1, fun i hi hn => by
    rw [List.getElem?_set_ne (fun e => hn (by subst e; exact hb hi))]
    exact h.2 i hi hn⟩
theorem Frm.obj {D : Nat → Prop} {S S' : Store} (h : Frm D S S') {id ver : Nat} {r : TypeId × Nat × List (List V)} (ho : S.obj? id ver = some r) (hd : ¬ D id) : S'.obj? id ver = some r := by
  have hlt := obj_lt ho
  unfold Store.obj? at *
  rw [h.2 id hlt hd]
  exact ho
theorem Frm.ext {D : Nat → Prop} {S0 S S' : Store} (h : Frm D S S') (hx : ∃ T, S = S0 ++ T) (hd : ∀ i, D i → S0.length ≤ i) : ∃ T, S' = S0 ++ T := by
  obtain ⟨T, rfl⟩ := hx
  have hl := h.1
  rw [List.length_append] at hl
  refine ⟨S'.drop S0.length, ?_⟩
  apply List.ext_getElem?
  intro i
  by_cases hi : i < S0.length
  · rw [List.getElem?_append_left hi, h.2 i (by simp; omega) (fun k => by have := hd i k; omega), List.getElem?_append_left hi]
  · rw [List.getElem?_append_right (by omega), List.getElem?_drop, show S0.length + (i - S0.length) = i by omega]
def idOf (v : V) (i : Nat) : Prop := ∃ ver o l, v = .msl i ver o l
def Lst (lo : Nat) (S : Store) (q : TypeId) (sz : Nat) (rows : List (List V)) (v : V) : Prop :=
  (v = .nilSl ∧ rows = []) ∨ ∃ c ver, lo ≤ c ∧ v = .msl c ver 0 rows.length ∧ S.obj? c ver = some (q, sz, rows)
section
variable {lo : Nat} {S S' : Store} {q : TypeId} {sz : Nat} {rows : List (List V)} {v : V}
theorem Lst.frm {D : Nat → Prop} (h : Lst lo S q sz rows v) (hf : Frm D S S') (hd : ∀ i, idOf v i → ¬ D i) : Lst lo S' q sz rows v := by
  rcases h with h | ⟨c, ver, h1, h2, h3⟩
  · exact .inl h
  · exact .inr ⟨c, ver, h1, h2, hf.obj h3 (hd c ⟨_, _, _, h2⟩)⟩
theorem Lst.lt (h : Lst lo S q sz rows v) {i : Nat} (hi : idOf v i) : i < S.length ∧ lo ≤ i := by
  obtain ⟨ver, o, l, rfl⟩ := hi
  rcases h with ⟨h, _⟩ | ⟨c, ver', h1, h2, h3⟩
  · cases h
  · cases h2
    exact ⟨obj_lt h3, h1⟩
theorem Lst.len (h : Lst lo S q sz rows v) (S1 : Store) : lenAV S1 v = some (.int .i64 (rows.length : Nat)) := by
  rcases h with ⟨rfl, rfl⟩ | ⟨c, ver, h1, rfl, h3⟩ <;> rfl
theorem Lst.cells (h : Lst lo S q sz rows v) : v.cells? = some [v] := by
  rcases h with ⟨rfl, rfl⟩ | ⟨c, ver, h1, rfl, h3⟩ <;> rfl
theorem Lst.app (h : Lst lo S q sz rows v) (hlo : lo ≤ S.length) {r : List V} {K : V → Store → Prop} (hl : rows.length ≤ 1000000)
    (k : ∀ v' S', Lst lo S' q sz (rows ++ [r]) v' → Frm (idOf v) S S' → (∀ i, idOf v' i → idOf v i ∨ S.length ≤ i) → K v' S') : appK q sz v (some (sz, [r])) S K := by
  rcases h with ⟨rfl, rfl⟩ | ⟨c, ver, h1, rfl, h3⟩
  · rw [app_nil]
    refine ⟨by unfold roomA; simp, k _ _ (.inr ⟨S.length, 0, hlo, by simp, ?_⟩) (Frm.add _ _ _) fun i ⟨ver, o, l, e⟩ => ?_⟩
    · rw [List.nil_append]
      exact ob_app0.trans ob_head
    · cases e
      exact .inr (Nat.le_refl _)
  · rw [app_msl, h3, appO_some]
    refine ⟨rfl, by unfold roomA; simp; omega, k _ _ (.inr ⟨c, ver + 1, h1, by simp, obj_set h3⟩) ((Frm.refl _ _).set (fun _ => ⟨_, _, _, rfl⟩) _) fun i ⟨ver', o, l, e⟩ => ?_⟩
    cases e
    exact .inl ⟨_, _, _, rfl⟩
end
def msgR (k s a : Int) (b : List UInt8) : List V := [.int .i64 k, .int .i64 s, .int .i64 a, .str b]
def Snd (S : Store) (p n a : Nat) (kv : V) : Prop := S.obj? p 0 = some (79, 4, [[.int .i64 40, .int .i64 (n : Nat), .int .i64 (a : Nat), kv]])
def Rcv (S : Store) (q : Nat) (bv : V) : Prop := S.obj? q 0 = some (81, 2, [[bv, .bool true]])
theorem newS_A (S : Store) : CallA Tryz.prog 12 [.int .i64 40] S fun r S' => r = .tup [.ptr S.length 0 0 0, .int .i64 0] ∧ S' = S ++ [⟨0, some (.arr 79 4 [[.int .i64 40, .int .i64 0, .int .i64 0, .nilSl]])⟩] := by
  refine CallA.keep Tryz.func12 c9012 (Nat.le_of_ble_eq_true rfl) fun σ hσ => ?_
  simp (disch := first | omega | (simp only [lenT]; omega)) only [a9012, dF (show ¬ (40 : Int) < 1 by decide), dF (show ¬ (9999 : Int) < 40 by decide), evSt, ↓evPre, ↓evPreW, evPost, evPostW, evR, evU, seval]
theorem newR_A (S : Store) : CallA Tryz.prog 13 [] S fun r S' => r = .ptr S.length 0 0 0 ∧ S' = S ++ [⟨0, some (.arr 81 2 [[.nilSl, .bool true]])⟩] := by
  refine CallA.keep Tryz.func13 c9013 (Nat.le_of_ble_eq_true rfl) fun σ hσ => ?_
  simp (disch := first | omega | (simp only [lenT]; omega)) only [a9013, evSt, ↓evPre, ↓evPreW, evPost, evPostW, evR, evU, seval]
def zM : List V := [.int .i64 0, .int .i64 0, .int .i64 0, .str []]
set_option maxHeartbeats 1000000 in
theorem send_A {S : Store} {lo p n a : Nat} {kv : V} {ks : List (List V)} (hp : p < lo) (hlo : lo ≤ S.length) (h : Snd S p n a kv) (hk : Lst lo S 43 4 ks kv) (hn : n ≤ 1000000) (hks : ks.length < 40) (b : List UInt8) (hb : b.length ≤ 65536) :
    CallA Tryz.prog 16 [.ptr p 0 0 0, .str b] S fun r S' => r = .tup [.agg (msgR 1 ((n : Int) + 1) 0 b), .int .i64 0] ∧ ∃ kv', Snd S' p (n + 1) a kv' ∧ Lst lo S' 43 4 (ks ++ [msgR 1 ((n : Int) + 1) 0 b]) kv' ∧ Frm (fun i => i = p ∨ idOf kv i) S S' ∧ ∀ i, idOf kv' i → idOf kv i ∨ S.length ≤ i := by
  refine CallA.keep Tryz.func16 c9016 (Nat.le_of_ble_eq_true rfl) fun σ hσ => ?_
  have hrd := fun X => ready_S p (n : Int) (a : Int) kv (S ++ X) (obj_add h)
  have hlen := fun S' => hk.len S'
  have hl1 : ¬ (65536 : Int) < (b.length : Int) := by omega
  have hl2 : ¬ (40 : Int) ≤ ((ks.length : Nat) : Int) := by omega
  have hpS : p < S.length := by omega
  have hnp : ∀ i, idOf kv i → i < S.length ∧ lo ≤ i := fun i hi => hk.lt hi
  unfold Snd at h
  obtain ⟨S0, hS0⟩ : ∃ S0 : Store, S0 = S ++ [⟨0, some (.arr 43 4 [zM])⟩] := ⟨_, rfl⟩
  obtain ⟨S1, hS1⟩ : ∃ S1 : Store, S1 = S0.set p ⟨0, some (.arr 79 4 [[.int .i64 40, .int .i64 ((n + 1 : Nat) : Int), .int .i64 (a : Nat), kv]])⟩ := ⟨_, rfl⟩
  have h0 : S0.obj? p 0 = some (79, 4, [[.int .i64 40, .int .i64 (n : Nat), .int .i64 (a : Nat), kv]]) := by rw [hS0]; exact obj_add h
  have z0 : S0.obj? S.length 0 = some (43, 4, [zM]) := by rw [hS0]; exact ob_app0.trans ob_head
  have h1 : S1.obj? p 0 = some (79, 4, [[.int .i64 40, .int .i64 ((n + 1 : Nat) : Int), .int .i64 (a : Nat), kv]]) := by rw [hS1]; exact obj_set h0
  have z1 : S1.obj? S.length 0 = some (43, 4, [zM]) := by rw [hS1, obj_set_ne (by omega)]; exact z0
  have l1 : S1.length = S.length + 1 := by rw [hS1, hS0]; simp
  have f1 : Frm (fun i => i = p) S S1 := by rw [hS1, hS0]; exact (Frm.add (fun i => i = p) S _).set (fun _ => rfl) _
  have k1 : Lst lo S1 43 4 ks kv := hk.frm f1 fun i hi e => by have := hnp i hi; omega
  have hrd0 := hrd [⟨0, some (.arr 43 4 [zM])⟩]
  rw [← hS0] at hrd0
  have hn1 : (n : Int) + 1 = ((n + 1 : Nat) : Int) := by omega
  simp (disch := first | omega | (simp only [lenT]; omega)) only [a9016, evSt, ↓evPre, ↓evPreW, evPost, evPostW, evR, evU, seval]
  unfold zM at hS0
  rw [← hS0]
  refine hrd0.then ?_
  simp (disch := first | omega | (simp only [lenT]; omega)) only [h0, hlen, wrap_i64, dF hl1, dF hl2, Bool.not_true, evSt, ↓evPre, ↓evPreW, evPost, evPostW, evR, evU, seval]
  rw [hn1, ← hS1]
  have h1x := fun X => obj_add (X := X) h1
  simp (disch := first | omega | (simp only [lenT]; omega)) only [h1, h1x, hlen, wrap_i64, evSt, ↓evPre, ↓evPreW, evPost, evPostW, evR, evU, seval]
  refine (k1.frm (Frm.add (fun _ => False) S1 _) fun _ _ h => h).app (by simp; omega) (by omega) fun v' S2 k2 f2 i2 => ?_
  have p2 : S2.obj? p 0 = some (79, 4, [[.int .i64 40, .int .i64 ((n + 1 : Nat) : Int), .int .i64 (a : Nat), kv]]) := f2.obj (h1x _) fun hi => by have := hnp p hi; omega
  have z2 : S2.obj? S.length 0 = some (43, 4, [zM]) := f2.obj (obj_add z1) fun hi => by have := (hnp _ hi).1; omega
  have b2 : S2.obj? S1.length 0 = some (43, 4, [[.int .i64 1, .int .i64 ((n + 1 : Nat) : Int), .int .i64 0, .str b]]) := f2.obj (ob_app0.trans ob_head) fun hi => by have := (hnp _ hi).1; omega
  obtain ⟨S3, hS3⟩ : ∃ S3 : Store, S3 = S2.set p ⟨0, some (.arr 79 4 [[.int .i64 40, .int .i64 ((n + 1 : Nat) : Int), .int .i64 (a : Nat), v']])⟩ := ⟨_, rfl⟩
  have p3 : S3.obj? p 0 = some (79, 4, [[.int .i64 40, .int .i64 ((n + 1 : Nat) : Int), .int .i64 (a : Nat), v']]) := by rw [hS3]; exact obj_set p2
  have z3 : S3.obj? S.length 0 = some (43, 4, [zM]) := by rw [hS3, obj_set_ne (by omega)]; exact z2
  have b3 : S3.obj? S1.length 0 = some (43, 4, [[.int .i64 1, .int .i64 ((n + 1 : Nat) : Int), .int .i64 0, .str b]]) := by rw [hS3, obj_set_ne (by omega)]; exact b2
  have f12 : Frm (fun i => i = p ∨ idOf kv i) S S2 := (f1.mono fun i _ => .inl).trans (((Frm.add (fun i => idOf kv i) S1 _).trans f2).mono fun i _ => .inr)
  have f3 : Frm (fun i => i = p ∨ idOf kv i) S S3 := by rw [hS3]; exact f12.set (fun _ => .inl rfl) _
  have hv : ∀ i, idOf v' i → idOf kv i ∨ S.length ≤ i := fun i hi => (i2 i hi).imp id fun h => by simp at h; omega
  have hvp : ∀ i, idOf v' i → i ≠ p := fun i hi e => (hv i hi).elim (fun h => by have := hnp i h; omega) (by omega)
  have k3 : Lst lo S3 43 4 (ks ++ [msgR 1 ((n + 1 : Nat) : Int) 0 b]) v' := by
    rw [hS3]
    exact k2.frm ((Frm.refl (fun i => i = p) S2).set (fun _ => rfl) _) fun i hi e => hvp i hi e
  unfold zM at z3
  simp (disch := first | omega | (simp only [lenT]; omega)) only [p2, k2.cells, evSt, ↓evPre, ↓evPreW, evPost, evPostW, evR, evU, seval]
  rw [← hS3]
  have z4 : Store.obj? (S3.set S.length ⟨0, some (.arr 43 4 [[.int .i64 1, .int .i64 ((n + 1 : Nat) : Int), .int .i64 0, .str b]])⟩) S.length 0 = some (43, 4, [[.int .i64 1, .int .i64 ((n + 1 : Nat) : Int), .int .i64 0, .str b]]) := obj_set z3
  simp (disch := first | omega | (simp only [lenT]; omega)) only [b3, z3, z4, evSt, ↓evPre, ↓evPreW, evPost, evPostW, evR, evU, seval]
  exact ⟨rfl, v', (obj_set_ne (by omega)).trans p3, k3.frm ((Frm.refl (fun i => i = S.length) S3).set (fun _ => rfl) _) fun i hi e => (i2 i hi).elim (fun h => by have := hnp i h; omega) fun h => by simp at h; omega, f3.set (fun h => by omega) _, hv⟩
def rcvF (len : Nat) (s : Int) : Int := if s ≤ len then 30 else if (len : Int) + 1 < s then 29 else 0
def rcvL (bs : List (List V)) (s : Int) (b : List UInt8) : List (List V) := if rcvF bs.length s = 0 then bs ++ [[.str b]] else bs
set_option maxHeartbeats 1000000 in
theorem receive_A {S : Store} {lo q : Nat} {bv : V} {bs : List (List V)} (hp : q < lo) (hlo : lo ≤ S.length) (h : Rcv S q bv) (hk : Lst lo S 9 1 bs bv) (hbs : bs.length ≤ 100000) (s : Int) (hs : 1 ≤ s) (b : List UInt8) :
    CallA Tryz.prog 38 [.ptr q 0 0 0, .agg (msgR 1 s 0 b)] S fun r S' => r = .tup [.agg (msgR 2 0 ((rcvL bs s b).length : Nat) []), .int .i64 (rcvF bs.length s)] ∧ ∃ bv', Rcv S' q bv' ∧ Lst lo S' 9 1 (rcvL bs s b) bv' ∧ Frm (fun i => i = q ∨ idOf bv i) S S' ∧ ∀ i, idOf bv' i → idOf bv i ∨ S.length ≤ i := by
  refine CallA.keep Tryz.func38 c9038 (Nat.le_of_ble_eq_true rfl) fun σ hσ => ?_
  have hlen := fun S' => hk.len S'
  have hqS : q < S.length := by omega
  have hnp : ∀ i, idOf bv i → i < S.length ∧ lo ≤ i := fun i hi => hk.lt hi
  have htk := fun X => takes_R q bv (.int .i64 s) (.int .i64 0) (.str b) (S ++ X) (obj_add h)
  unfold Rcv at h
  have h0 := fun X => obj_add (X := X) h
  have hs1 : ¬ s < 1 := by omega
  obtain ⟨S0, hS0⟩ : ∃ S0 : Store, S0 = S ++ [⟨0, some (.arr 43 4 [zM])⟩] := ⟨_, rfl⟩
  have p0 : S0.obj? q 0 = some (81, 2, [[bv, .bool true]]) := by rw [hS0]; exact obj_add h
  have z0 : S0.obj? S.length 0 = some (43, 4, [zM]) := by rw [hS0]; exact ob_app0.trans ob_head
  have f0 : Frm (fun i => i = q ∨ idOf bv i) S S0 := by rw [hS0]; exact Frm.add _ _ _
  have k0 : Lst lo S0 9 1 bs bv := by rw [hS0]; exact hk.frm (Frm.add (fun _ => False) S _) fun _ _ h => h
  have l0 : S0.length = S.length + 1 := by rw [hS0]; simp
  have tk0 := htk [⟨0, some (.arr 43 4 [zM])⟩]
  rw [← hS0] at tk0
  unfold zM at hS0 z0
  have z4 : ∀ m : Int, Store.obj? (S0.set S.length ⟨0, some (.arr 43 4 [[.int .i64 2, .int .i64 0, .int .i64 m, .str []]])⟩) S.length 0 = some (43, 4, [[.int .i64 2, .int .i64 0, .int .i64 m, .str []]]) := fun m => obj_set z0
  simp (disch := first | omega | (simp only [lenT]; omega)) only [a9038, msgR, evSt, ↓evPre, ↓evPreW, evPost, evPostW, evR, evU, seval]
  rw [← hS0]
  refine tk0.then ?_
  by_cases h1 : s ≤ ((bs.length : Nat) : Int)
  · have e1 : rcvF bs.length s = 30 := by unfold rcvF; rw [if_pos h1]
    have e2 : rcvL bs s b = bs := by unfold rcvL; rw [e1]; rfl
    rw [e1, e2]
    simp (disch := first | omega | (simp only [lenT]; omega)) only [p0, z0, z4, hlen, dF hs1, dT h1, evSt, ↓evPre, ↓evPreW, evPost, evPostW, evR, evU, seval]
    exact ⟨bv, (obj_set_ne (by omega)).trans p0, k0.frm ((Frm.refl (fun i => i = S.length) S0).set (fun _ => rfl) _) fun i hi e => by have := hnp i hi; omega, f0.set (fun h => by omega) _, fun i => .inl⟩
  by_cases h2 : ((bs.length : Nat) : Int) + 1 < s
  · have e1 : rcvF bs.length s = 29 := by unfold rcvF; rw [if_neg h1, if_pos h2]
    have e2 : rcvL bs s b = bs := by unfold rcvL; rw [e1]; rfl
    rw [e1, e2]
    simp (disch := first | omega | (simp only [lenT]; omega)) only [p0, z0, z4, hlen, dF hs1, dF h1, dT h2, wrap_i64, evSt, ↓evPre, ↓evPreW, evPost, evPostW, evR, evU, seval]
    exact ⟨bv, (obj_set_ne (by omega)).trans p0, k0.frm ((Frm.refl (fun i => i = S.length) S0).set (fun _ => rfl) _) fun i hi e => by have := hnp i hi; omega, f0.set (fun h => by omega) _, fun i => .inl⟩
  have e1 : rcvF bs.length s = 0 := by unfold rcvF; rw [if_neg h1, if_neg h2]
  have e2 : rcvL bs s b = bs ++ [[.str b]] := by unfold rcvL; rw [e1]; rfl
  rw [e1, e2]
  simp (disch := first | omega | (simp only [lenT]; omega)) only [p0, z0, z4, hlen, dF hs1, dF h1, dF h2, wrap_i64, evSt, ↓evPre, ↓evPreW, evPost, evPostW, evR, evU, seval]
  refine k0.app (by omega) (by omega) fun v' S2 k2 f2 i2 => ?_
  have p2 : S2.obj? q 0 = some (81, 2, [[bv, .bool true]]) := f2.obj p0 fun hi => by have := hnp q hi; omega
  have z2 := f2.obj z0 fun hi => by have := (hnp _ hi).1; omega
  obtain ⟨S3, hS3⟩ : ∃ S3 : Store, S3 = S2.set q ⟨0, some (.arr 81 2 [[v', .bool true]])⟩ := ⟨_, rfl⟩
  have p3 : S3.obj? q 0 = some (81, 2, [[v', .bool true]]) := by rw [hS3]; exact obj_set p2
  have z3 := (obj_set_ne (S := S2) (o := ⟨0, some (.arr 81 2 [[v', .bool true]])⟩) (show S.length ≠ q by omega)).trans z2
  rw [← hS3] at z3
  have f3 : Frm (fun i => i = q ∨ idOf bv i) S S3 := by rw [hS3]; exact (f0.trans (f2.mono fun i _ => .inr)).set (fun _ => .inl rfl) _
  have hv : ∀ i, idOf v' i → idOf bv i ∨ S.length ≤ i := fun i hi => (i2 i hi).imp id fun h => by omega
  have k3 : Lst lo S3 9 1 (bs ++ [[.str b]]) v' := by
    rw [hS3]
    exact k2.frm ((Frm.refl (fun i => i = q) S2).set (fun _ => rfl) _) fun i hi e => (hv i hi).elim (fun h => by have := hnp i h; omega) (by omega)
  have l3 := k3.len S3
  have z5 : ∀ m : Int, Store.obj? (S3.set S.length ⟨0, some (.arr 43 4 [[.int .i64 2, .int .i64 0, .int .i64 m, .str []]])⟩) S.length 0 = some (43, 4, [[.int .i64 2, .int .i64 0, .int .i64 m, .str []]]) := fun m => obj_set z3
  simp (disch := first | omega | (simp only [lenT]; omega)) only [p2, k2.cells, evSt, ↓evPre, ↓evPreW, evPost, evPostW, evR, evU, seval]
  rw [← hS3]
  simp (disch := first | omega | (simp only [lenT]; omega)) only [p3, l3, z3, z5, evSt, ↓evPre, ↓evPreW, evPost, evPostW, evR, evU, seval]
  exact ⟨v', (obj_set_ne (by omega)).trans p3, k3.frm ((Frm.refl (fun i => i = S.length) S3).set (fun _ => rfl) _) fun i hi e => (i2 i hi).elim (fun h => by have := hnp i h; omega) fun h => by omega, f3.set (fun h => by omega) _, hv⟩
end Lk
end Go.Proofs.YtlnpfnoemhjheaaGreatDoor
/- A link in the store: what is acknowledged, what is sent again. -/
namespace Go.Proofs.YtlnpfnoemhjheaaGreatDoor
open Go Go.AL
set_option linter.unusedSectionVars false
variable [Go.AL.Mode] [Go.AL.LooseM]
set_option linter.unusedSimpArgs false
set_option linter.unusedVariables false
namespace Lk
theorem clone_nil (S : Store) : CallA Tryz.prog 40 [.nilSl] S fun r S' => r = .nilSl ∧ S' = S := by
  refine CallA.keep Tryz.func40 c9040 (Nat.le_of_ble_eq_true rfl) fun σ hσ => ?_
  simp (disch := first | omega | (simp only [lenT]; omega)) only [a9040, evSt, ↓evPre, ↓evPreW, evPost, evPostW, evR, evU, seval]
theorem nd_m0 {neg : Bool} {id ver off : Nat} {S : Store} {K : V → Store → Prop} : nilDK neg (.msl id ver off 0) S K = ((S.obj? id ver).isSome = true ∧ K (.bool true) S ∧ K (.bool false) S) := by simp only [nilDK]
theorem nd_ms {neg : Bool} {id ver off n : Nat} {S : Store} {r : TypeId × Nat × List (List V)} {K : V → Store → Prop} (h : S.obj? id ver = some r) : nilDK neg (.msl id ver off (n + 1)) S K = K (.bool neg) S := by cases neg <;> simp [nilDK, nilV, h]
theorem clone_A (S : Store) (c ver off len : Nat) (rows : List (List V)) (h : S.obj? c ver = some (43, 4, rows)) (hl : rows.length ≤ 1000) :
    CallA Tryz.prog 40 [.msl c ver off len] S fun r S' => (r = .nilSl ∧ S' = S ∧ (rows.drop off).take len = []) ∨ r = .msl S.length 1 0 ((rows.drop off).take len).length ∧ S' = S ++ [⟨1, some (.arr 43 4 ((rows.drop off).take len))⟩] := by
  refine CallA.keep Tryz.func40 c9040 (Nat.le_of_ble_eq_true rfl) fun σ hσ => ?_
  have h1 := obj_add (X := [⟨0, some (.arr 43 4 [])⟩]) h
  have h2 : ((rows.drop off).take len).length ≤ 1000 := by rw [List.length_take, List.length_drop]; omega
  simp (disch := first | omega | (simp only [lenT]; omega)) only [a9040, h1, evSt, ↓evPre, ↓evPreW, evPost, evPostW, evR, evU, seval]
  cases len with
  | zero =>
    rw [nd_m0, h]
    refine ⟨rfl, ?_, ?_⟩
    · simp (disch := first | omega | (simp only [lenT]; omega)) only [evSt, ↓evPre, ↓evPreW, evPost, evPostW, evR, evU, seval]
      exact .inl trivial
    · simp (disch := first | omega | (simp only [lenT]; omega)) only [h1, roomA, List.append_nil, List.length_nil, evSt, ↓evPre, ↓evPreW, evPost, evPostW, evR, evU, seval]
      exact .inr trivial
  | succ len =>
    rw [nd_ms h]
    simp (disch := first | omega | (simp only [lenT]; omega)) only [h1, roomA, List.nil_append, evSt, ↓evPre, ↓evPreW, evPost, evPostW, evR, evU, seval]
    exact ⟨by omega, .inr trivial⟩
def cutV (k : Nat) : V → V
  | .msl c ver _ len => .msl c ver k (len - k)
  | v => v
theorem cloneL_A {S : Store} {lo k : Nat} {kv : V} {ks : List (List V)} (hk : Lst lo S 43 4 ks kv) (hlo : lo ≤ S.length) (hl : ks.length ≤ 1000) (hkl : k ≤ ks.length) :
    CallA Tryz.prog 40 [cutV k kv] S fun r S' => Lst lo S' 43 4 (ks.drop k) r ∧ Frm (fun _ => False) S S' ∧ ∀ i, idOf r i → S.length ≤ i := by
  rcases hk with ⟨rfl, rfl⟩ | ⟨c, ver, h1, rfl, h3⟩
  · refine (clone_nil S).mono ?_
    rintro r S' ⟨rfl, rfl⟩
    exact ⟨.inl ⟨rfl, by simp⟩, Frm.refl _ _, fun i ⟨_, _, _, e⟩ => by cases e⟩
  · refine (clone_A S c ver k (ks.length - k) ks h3 hl).mono ?_
    have e : (ks.drop k).take (ks.length - k) = ks.drop k := List.take_of_length_le (by rw [List.length_drop]; omega)
    rw [e]
    rintro r S' (⟨rfl, rfl, h⟩ | ⟨rfl, rfl⟩)
    · exact ⟨.inl ⟨rfl, h⟩, Frm.refl _ _, fun i ⟨_, _, _, e⟩ => by cases e⟩
    · exact ⟨.inr ⟨S.length, 1, hlo, rfl, ob_app0.trans ob_head⟩, Frm.add _ _ _, fun i ⟨_, _, _, e⟩ => by cases e; exact Nat.le_refl _⟩
set_option maxHeartbeats 1000000 in
theorem acked_A {S : Store} {lo p n a : Nat} {kv : V} {ks : List (List V)} (hp : p < lo) (hlo : lo ≤ S.length) (h : Snd S p n a kv) (hk : Lst lo S 43 4 ks kv) (hn : n ≤ 1000) (hks : ks.length + a = n) (k : Nat) (h1 : a ≤ k) (h2 : k ≤ n) :
    CallA Tryz.prog 39 [.ptr p 0 0 0, .agg (msgR 2 0 (k : Nat) [])] S fun r S' => r = .int .i64 0 ∧ ∃ kv', Snd S' p n k kv' ∧ Lst lo S' 43 4 (ks.drop (k - a)) kv' ∧ Frm (fun i => i = p) S S' ∧ ∀ i, idOf kv' i → S.length ≤ i := by
  refine CallA.keep Tryz.func39 c9039 (Nat.le_of_ble_eq_true rfl) fun σ hσ => ?_
  have htk := takes_S p (n : Int) (a : Int) kv (.int .i64 0) (.int .i64 (k : Nat)) (.str []) S h
  have hcl := cloneL_A (k := k - a) hk hlo (by omega) (by omega)
  unfold Snd at h
  have c1 : ¬ (k : Int) < 0 := by omega
  have c2 : ¬ (n : Int) < (k : Int) := by omega
  have c3 : ¬ (k : Int) < (a : Int) := by omega
  have e1 : (k : Int) - (a : Int) = ((k - a : Nat) : Int) := by omega
  have hcut : ∀ (e : Nat → V) (x : Nat), e x = .int .i64 ((k - a : Nat) : Int) → slAV e S 4 kv (some (.t x)) none = some (cutV (k - a) kv) := fun e x hx => by
    rcases hk with ⟨rfl, rfl⟩ | ⟨c, ver, h1', rfl, h3⟩
    · have : k - a = 0 := by simp at hks; omega
      rw [this] at hx
      simp [slAV, bound, ev, hx, cutV]
    · rw [slA_msl, h3, bd_some, bd_none]
      simp only [ev, hx, io_int, cutO_some]
      rw [if_pos ⟨by omega, by omega, by omega⟩]
      simp [cutV]
  simp (disch := first | omega | (simp only [lenT]; omega)) only [a9039, msgR, evSt, ↓evPre, ↓evPreW, evPost, evPostW, evR, evU, seval]
  refine htk.then ?_
  simp (disch := first | omega | (simp only [lenT]; omega)) only [h, dF c1, dF c2, dF c3, wrap_i64, e1, evSt, ↓evPre, ↓evPreW, evPost, evPostW, evR, evU, seval]
  rw [hcut _ 45 rfl]
  simp (disch := first | omega | (simp only [lenT]; omega)) only [evSt, ↓evPre, ↓evPreW, evPost, evPostW, evR, evU, seval]
  refine hcl.mono ?_
  rintro r S1 ⟨k1, f1, i1⟩
  have p1 := f1.obj h id
  obtain ⟨S2, hS2⟩ : ∃ S2 : Store, S2 = S1.set p ⟨0, some (.arr 79 4 [[.int .i64 40, .int .i64 (n : Nat), .int .i64 (a : Nat), r]])⟩ := ⟨_, rfl⟩
  have p2 : S2.obj? p 0 = some (79, 4, [[.int .i64 40, .int .i64 (n : Nat), .int .i64 (a : Nat), r]]) := by rw [hS2]; exact obj_set p1
  have hS : S.length ≤ S1.length := f1.1
  have f2 : Frm (fun i => i = p) S S2 := by rw [hS2]; exact (f1.mono (D' := fun i => i = p) fun i _ h => h.elim).set (fun _ => rfl) _
  simp (disch := first | omega | (simp only [lenT]; omega)) only [p1, k1.cells, evSt, ↓evPre, ↓evPreW, evPost, evPostW, evR, evU, seval]
  rw [← hS2]
  simp (disch := first | omega | (simp only [lenT]; omega)) only [p2, evSt, ↓evPre, ↓evPreW, evPost, evPostW, evR, evU, seval]
  refine ⟨r, obj_set p2, ?_, f2.set (fun _ => rfl) _, i1⟩
  have f3 : Frm (fun i => i = p) S1 S2 := by rw [hS2]; exact (Frm.refl (fun i => i = p) S1).set (fun _ => rfl) _
  exact k1.frm (f3.set (fun _ => rfl) _) fun i hi e => by have := i1 i hi; omega
theorem again_A {S : Store} {lo p n a : Nat} {kv : V} {ks : List (List V)} (hlo : lo ≤ S.length) (h : Snd S p n a kv) (hk : Lst lo S 43 4 ks kv) (hl : ks.length ≤ 1000) (hr : ∀ r ∈ ks, r.length = 4 ∧ V.allImm r = true) :
    CallA Tryz.prog 18 [.ptr p 0 0 0] S fun r S' => r = .sl 4 ks ∧ S' = S := by
  refine CallA.withNeat Tryz.func18 c9018 fun hn => ?_
  refine CallA.fin Tryz.func18 c9018 (Nat.le_of_ble_eq_true rfl) fun σ hσ => ?_
  have hrd := ready_S p (n : Int) (a : Int) kv S h
  have hcl := cloneL_A (k := 0) hk hlo hl (Nat.zero_le _)
  have e0 : cutV 0 kv = kv := by
    rcases hk with ⟨rfl, rfl⟩ | ⟨c, ver, h1', rfl, h3⟩ <;> rfl
  rw [e0, List.drop_zero] at hcl
  unfold Snd at h
  simp (disch := first | omega | (simp only [lenT]; omega)) only [a9018, evSt, ↓evPre, ↓evPreW, evPost, evPostW, evR, evU, seval]
  refine hrd.then ?_
  simp (disch := first | omega | (simp only [lenT]; omega)) only [h, Bool.not_true, evSt, ↓evPre, ↓evPreW, evPost, evPostW, evR, evU, seval]
  refine hcl.mono ?_
  rintro r S1 ⟨k1, f1, i1⟩
  simp (disch := first | omega | (simp only [lenT]; omega)) only [evSt, ↓evPre, ↓evPreW, evPost, evPostW, evR, evU, seval]
  obtain ⟨T, rfl⟩ := f1.ext (S0 := S) ⟨[], by simp⟩ (fun i h => h.elim)
  rcases k1 with ⟨rfl, rfl⟩ | ⟨c, ver, h1, rfl, h3⟩
  · exact ⟨_, S, hn.fgt T, .nil, Nat.le_refl _, rfl, rfl⟩
  · exact ⟨_, S, hn.fgt T, .sl (t := 43) (i1 c ⟨_, _, _, rfl⟩) h3 (by simp) hr, Nat.le_refl _, rfl, rfl⟩
theorem kept_A {S : Store} {lo p n a : Nat} {kv : V} {ks : List (List V)} (hlo : lo ≤ S.length) (h : Snd S p n a kv) (hk : Lst lo S 43 4 ks kv) (hl : ks.length ≤ 1000) (hr : ∀ r ∈ ks, r.length = 4 ∧ V.allImm r = true) :
    CallA Tryz.prog 20 [.ptr p 0 0 0] S fun r S' => r = .int .i64 (ks.length : Nat) ∧ S' = S := by
  refine CallA.keep Tryz.func20 c9020 (Nat.le_of_ble_eq_true rfl) fun σ hσ => ?_
  simp (disch := first | omega | (simp only [lenT]; omega)) only [a9020, evSt, ↓evPre, ↓evPreW, evPost, evPostW, evR, evU, seval]
  refine (again_A hlo h hk hl hr).then ?_
  simp (disch := first | omega | (simp only [lenT]; omega)) only [evSt, ↓evPre, ↓evPreW, evPost, evPostW, evR, evU, seval]
end Lk
end Go.Proofs.YtlnpfnoemhjheaaGreatDoor
