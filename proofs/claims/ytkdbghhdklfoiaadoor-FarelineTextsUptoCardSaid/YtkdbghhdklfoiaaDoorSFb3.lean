/- Fare calculations are printed. -/
import Derived.Test.YtkdbghhdklfoiaaDoorSFb2
namespace Go.Proofs.YtkdbghhdklfoiaaDoor
open Go Go.AL Go.RowKit
set_option linter.unusedSectionVars false
variable [Go.AL.Mode] [Go.AL.LooseM]
set_option linter.unusedSimpArgs false
set_option linter.unusedVariables false
def legsW : List Txt → List Txt → List Txt
  | k :: ks, c :: cs => k :: c :: legsW ks cs
  | _, _ => []
def amW (n : Int) : Txt := amtF n.toNat
def itmW (x : Itm) : List Txt := legsW x.ks x.cs.tail ++ [amW x.am, x.ba]
def chgW (x : Chg) : List Txt := [txW, x.co, amW x.am]
def itsW (l : List Itm) : List Txt := l.flatMap itmW
def txsW (l : List Chg) : List Txt := l.flatMap chgW
def prW (c : Cal) : List Txt := (((c.its.head?.bind fun x => x.cs.head?).getD [] :: itsW c.its) ++ [faW, amW c.fare]) ++ txsW c.txs ++ [toW, amW c.tot]
def priF (c : Cal) : Txt × Int := if chkF c = 0 then (lineF (prW c), 0) else ([], chkF c)
theorem legsW_next : ∀ {ks cs : List Txt} {i : Nat} {k c : Txt}, ks[i]? = some k → cs[i]? = some c → legsW (ks.take (i + 1)) (cs.take (i + 1)) = legsW (ks.take i) (cs.take i) ++ [k, c]
  | [], _, i, k, c, h, _ => by simp at h
  | _ :: _, [], i, k, c, _, h => by simp at h
  | k0 :: ks, c0 :: cs, 0, k, c, h1, h2 => by
    simp only [List.getElem?_cons_zero, Option.some.injEq] at h1 h2
    subst h1 h2
    simp [legsW]
  | k0 :: ks, c0 :: cs, i + 1, k, c, h1, h2 => by
    simp only [List.getElem?_cons_succ] at h1 h2
    simp only [List.take_succ_cons, legsW, legsW_next h1 h2, List.cons_append]
theorem legsW_len : ∀ (ks cs : List Txt), (legsW ks cs).length ≤ 2 * ks.length
  | [], _ => by simp [legsW]
  | _ :: _, [] => by simp [legsW]
  | k :: ks, c :: cs => by
    have := legsW_len ks cs
    simp only [legsW, List.length_cons]
    omega
theorem its_ok : ∀ {l : List Itm} {last : Option Txt}, itsErr last l = 0 → ∀ x ∈ l, szB x = true ∧ nmB x = true ∧ okB x.am = true
  | [], _, _, x, hx => by cases hx
  | y :: l, last, h, x, hx => by
    rw [itsErr] at h
    by_cases hy : itmErr last y = 0
    · rw [if_pos hy] at h
      rcases List.mem_cons.1 hx with rfl | hx
      · have := itm_ok hy
        exact ⟨this.1, this.2.1, this.2.2.2⟩
      · exact its_ok h x hx
    · rw [if_neg hy] at h
      exact absurd h hy
theorem txs_ok : ∀ {l : List Chg}, txsErr l = 0 → ∀ x ∈ l, codeF x.co 1 8 = true ∧ okB x.am = true
  | [], _, x, hx => by cases hx
  | y :: l, h, x, hx => by
    rw [txsErr] at h
    by_cases hy : txErr y = 0
    · rw [if_pos hy] at h
      rcases List.mem_cons.1 hx with rfl | hx
      · exact tx_ok hy
      · exact txs_ok h x hx
    · rw [if_neg hy] at h
      exact absurd h hy
structure ChkOk (c : Cal) : Prop where
  n1 : 1 ≤ c.its.length
  n6 : c.its.length ≤ 6
  n512 : c.txs.length ≤ 512
  its : itsErr none c.its = 0
  txs : txsErr c.txs = 0
  fare : okB c.fare = true
  tot : okB c.tot = true
  sf : sumI c.its = c.fare
  st : c.fare + sumT c.txs = c.tot
theorem chk_ok {c : Cal} (h : chkF c = 0) : ChkOk c := by
  unfold chkF at h
  by_cases h1 : c.its.length = 0 ∨ 6 < c.its.length ∨ 512 < c.txs.length
  · rw [if_pos h1] at h; cases h
  rw [if_neg h1] at h
  by_cases h2 : itsErr none c.its = 0
  case neg => rw [if_neg h2] at h; exact absurd h h2
  rw [if_pos h2] at h
  by_cases h3 : txsErr c.txs = 0
  case neg => rw [if_neg h3] at h; exact absurd h h3
  rw [if_pos h3] at h
  unfold smErr at h
  by_cases h4 : okB c.fare = false ∨ okB c.tot = false
  · rw [if_pos h4] at h; cases h
  rw [if_neg h4] at h
  by_cases h5 : sumI c.its ≠ c.fare ∨ c.fare + sumT c.txs ≠ c.tot
  · rw [if_pos h5] at h; cases h
  refine ⟨by omega, by omega, by omega, h2, h3, ?_, ?_, by omega, by omega⟩
  · cases hf : okB c.fare
    · exact absurd (.inl hf) h4
    · rfl
  · cases hf : okB c.tot
    · exact absurd (.inr hf) h4
    · rfl
theorem code_plain {s : Txt} {a b : Nat} (h : codeF s a b = true) (ha : 1 ≤ a) : plainF s = true ∧ s.length ≤ b := by
  unfold codeF at h
  rw [Bool.and_eq_true, decide_eq_true_eq] at h
  refine ⟨?_, h.1.2⟩
  unfold plainF
  rw [dT (show s ≠ [] by intro e; rw [e] at h; simp at h; omega), Bool.true_and]
  rw [List.all_eq_true] at *
  intro c hc
  have := h.2 c hc
  rw [Bool.or_eq_true] at this
  exact this.elim up_plain dig_plain
theorem air_plain {s : Txt} (h : airF s = true) : plainF s = true ∧ s.length = 3 := by
  unfold airF at h
  rw [Bool.and_eq_true, decide_eq_true_eq] at h
  refine ⟨?_, h.1⟩
  unfold plainF
  rw [dT (show s ≠ [] by intro e; rw [e] at h; simp at h), Bool.true_and]
  rw [List.all_eq_true] at *
  exact fun c hc => up_plain (h.2 c hc)
theorem car_plain {s : Txt} (h : carF s = true) : plainF s = true ∧ s.length = 2 := by
  unfold carF at h
  rw [Bool.and_eq_true] at h
  have h2 := code_plain h.1 (by omega)
  refine ⟨h2.1, ?_⟩
  have := h.1
  unfold codeF at this
  rw [Bool.and_eq_true, decide_eq_true_eq] at this
  omega
theorem am_plain {n : Int} (h : okB n = true) : plainF (amW n) = true ∧ (amW n).length ≤ 30 ∧ 4 ≤ (amW n).length := by
  have hb := okB_iff.1 h
  have h1 := amt_plain n.toNat
  have h2 := amt_len n.toNat (by omega)
  refine ⟨?_, h2, h1.2⟩
  unfold plainF amW
  rw [dT (show amtF n.toNat ≠ [] by intro e; have := h1.2; rw [e] at this; simp at this), h1.1]
  rfl
def Wd (t : Txt) : Prop := plainF t = true ∧ t.length ≤ 30
theorem legsW_wd : ∀ {ks cs : List Txt}, (∀ t ∈ ks, Wd t) → (∀ t ∈ cs, Wd t) → ∀ t ∈ legsW ks cs, Wd t
  | [], _, _, _, t, ht => by simp [legsW] at ht
  | _ :: _, [], _, _, t, ht => by simp [legsW] at ht
  | k :: ks, c :: cs, h1, h2, t, ht => by
    simp only [legsW, List.mem_cons] at ht
    rcases ht with rfl | rfl | ht
    · exact h1 _ (List.mem_cons_self ..)
    · exact h2 _ (List.mem_cons_self ..)
    · exact legsW_wd (fun t ht => h1 t (List.mem_cons_of_mem _ ht)) (fun t ht => h2 t (List.mem_cons_of_mem _ ht)) t ht
theorem nm_wd {x : Itm} (h : nmB x = true) : Wd x.ba ∧ (∀ t ∈ x.cs, Wd t) ∧ ∀ t ∈ x.ks, Wd t := by
  unfold nmB at h
  rw [Bool.and_eq_true, Bool.and_eq_true] at h
  refine ⟨⟨(code_plain h.1.1 (by omega)).1, by have := (code_plain h.1.1 (by omega)).2; omega⟩, fun t ht => ?_, fun t ht => ?_⟩
  · have := air_plain (List.all_eq_true.1 h.1.2 t ht)
    exact ⟨this.1, by omega⟩
  · have := car_plain (List.all_eq_true.1 h.2 t ht)
    exact ⟨this.1, by omega⟩
theorem itmW_wd {x : Itm} (h1 : nmB x = true) (h2 : okB x.am = true) : ∀ t ∈ itmW x, Wd t := by
  obtain ⟨a, b, c⟩ := nm_wd h1
  intro t ht
  rcases List.mem_append.1 ht with ht | ht
  · exact legsW_wd c (fun t ht => b t (List.mem_of_mem_tail ht)) t ht
  · simp only [List.mem_cons, List.not_mem_nil, or_false] at ht
    rcases ht with rfl | rfl
    · have := am_plain h2; exact ⟨this.1, this.2.1⟩
    · exact a
theorem prW_wd {c : Cal} (h : ChkOk c) : ∀ t ∈ prW c, Wd t := by
  have hi := its_ok h.its
  have ht := txs_ok h.txs
  have af := am_plain h.fare
  have at_ := am_plain h.tot
  intro t hm
  unfold prW at hm
  simp only [List.mem_append, List.mem_cons, List.not_mem_nil, or_false] at hm
  rcases hm with (((rfl | hm) | rfl | rfl) | hm) | rfl | rfl
  · cases hc : c.its with
    | nil => have := h.n1; rw [hc] at this; simp at this
    | cons x l =>
      have hx := hi x (by rw [hc]; exact List.mem_cons_self ..)
      simp only [List.head?_cons, Option.bind_some]
      cases hcs : x.cs with
      | nil => exact absurd hcs (sz_ne hx.1)
      | cons t l => exact (nm_wd hx.2.1).2.1 t (by rw [hcs]; exact List.mem_cons_self ..)
  · obtain ⟨x, hx, hm⟩ := List.mem_flatMap.1 hm
    exact itmW_wd (hi x hx).2.1 (hi x hx).2.2 t hm
  · exact ⟨by decide, by decide⟩
  · exact ⟨af.1, af.2.1⟩
  · obtain ⟨x, hx, hm⟩ := List.mem_flatMap.1 hm
    simp only [chgW, List.mem_cons, List.not_mem_nil, or_false] at hm
    have := ht x hx
    rcases hm with rfl | rfl | rfl
    · exact ⟨by decide, by decide⟩
    · exact ⟨(code_plain this.1 (by omega)).1, by have := (code_plain this.1 (by omega)).2; omega⟩
    · have := am_plain this.2; exact ⟨this.1, this.2.1⟩
  · exact ⟨by decide, by decide⟩
  · exact ⟨at_.1, at_.2.1⟩
theorem itsW_len : ∀ {l : List Itm}, (∀ x ∈ l, szB x = true) → (itsW l).length ≤ 14 * l.length
  | [], _ => by simp [itsW]
  | x :: l, h => by
    have h1 := itsW_len (l := l) fun y hy => h y (List.mem_cons_of_mem _ hy)
    have h2 := h x (List.mem_cons_self ..)
    have h3 := legsW_len x.ks x.cs.tail
    unfold szB at h2
    simp at h2
    unfold itsW at *
    simp only [List.flatMap_cons, List.length_append, itmW, List.length_cons, List.length_nil]
    omega
theorem txsW_len : ∀ (l : List Chg), (txsW l).length = 3 * l.length
  | [] => rfl
  | x :: l => by
    have h1 := txsW_len l
    unfold txsW at *
    simp only [List.flatMap_cons, List.length_append, chgW, List.length_cons, List.length_nil]
    omega
theorem tail_len (sep : Txt) (n : Nat) : ∀ l : List Txt, (∀ t ∈ l, t.length ≤ n) → (Lib.joinTail sep l).length ≤ (n + sep.length) * l.length
  | [], _ => by simp [Lib.joinTail]
  | x :: l, h => by
    have h1 := tail_len sep n l fun t ht => h t (List.mem_cons_of_mem _ ht)
    have h2 := h x (List.mem_cons_self ..)
    unfold Lib.joinTail at *
    simp only [List.map_cons, List.flatten_cons, List.length_append, List.length_cons]
    rw [Nat.mul_succ]
    omega
theorem join_len (sep : Txt) (n : Nat) : ∀ l : List Txt, (∀ t ∈ l, t.length ≤ n) → (Lib.join l sep).length ≤ (n + sep.length) * l.length
  | [], _ => by simp [Lib.join_nil]
  | x :: l, h => by
    have h1 := tail_len sep n l fun t ht => h t (List.mem_cons_of_mem _ ht)
    have h2 := h x (List.mem_cons_self ..)
    rw [Lib.join_cons, List.length_append, List.length_cons, Nat.mul_succ]
    omega
end Go.Proofs.YtkdbghhdklfoiaaDoor
/- fareline.Print, walked. -/
namespace Go.Proofs.YtkdbghhdklfoiaaDoor
open Go Go.AL Go.RowKit
set_option linter.unusedSectionVars false
variable [Go.AL.Mode] [Go.AL.LooseM]
set_option linter.unusedSimpArgs false
set_option linter.unusedVariables false
theorem Lst.apps {lo : Nat} {S : Store} {q : TypeId} {sz : Nat} {rows : List (List V)} {v : V} (h : Lst lo S q sz rows v) (hlo : lo ≤ S.length) {rs : List (List V)} {K : V → Store → Prop} (hl : rows.length + rs.length ≤ 1000000)
    (k : ∀ v' S', Lst lo S' q sz (rows ++ rs) v' → Frm (idOf v) S S' → (∀ i, idOf v' i → idOf v i ∨ S.length ≤ i) → K v' S') : appK q sz v (some (sz, rs)) S K := by
  rcases h with ⟨rfl, rfl⟩ | ⟨c, ver, h1, rfl, h3⟩
  · rw [app_nil]
    refine ⟨by unfold roomA; simp at hl; omega, k _ _ (.inr ⟨S.length, 0, hlo, by simp, ?_⟩) (Frm.add _ _ _) fun i ⟨ver, o, l, e⟩ => ?_⟩
    · rw [List.nil_append]
      exact ob_app0.trans ob_head
    · cases e
      exact .inr (Nat.le_refl _)
  · rw [app_msl, h3, appO_some]
    refine ⟨rfl, by unfold roomA; omega, k _ _ (.inr ⟨c, ver + 1, h1, by simp, obj_set h3⟩) ((Frm.refl _ _).set (fun _ => ⟨_, _, _, rfl⟩) _) fun i ⟨ver', o, l, e⟩ => ?_⟩
    cases e
    exact .inl ⟨_, _, _, rfl⟩
structure PrS (S : Store) (rows : List Txt) (v : V) (S1 : Store) : Prop where
  l : Lst S.length S1 9 1 (rows.map txR) v
  ext : ∃ T, S1 = S ++ T
theorem PrS.len {S : Store} {rows : List Txt} {v : V} {S1 : Store} (h : PrS S rows v S1) : S.length ≤ S1.length := by
  obtain ⟨T, rfl⟩ := h.ext
  simp
theorem PrS.add {S : Store} {rows : List Txt} {v : V} {S1 : Store} (h : PrS S rows v S1) (X : Store) : PrS S rows v (S1 ++ X) := by
  have f := Frm.add (fun _ => False) S1 X
  exact ⟨h.l.frm f fun _ _ h => h, f.ext h.ext fun _ h => h.elim⟩
theorem PrS.app {S : Store} {rows : List Txt} {v : V} {S1 : Store} (h : PrS S rows v S1) {rs : List Txt} {K : V → Store → Prop} (hl : rows.length + rs.length ≤ 1000000)
    (k : ∀ v' S2, PrS S (rows ++ rs) v' S2 → Frm (idOf v) S1 S2 → (∀ i, idOf v' i → idOf v i ∨ S1.length ≤ i) → K v' S2) : appK 9 1 v (some (1, rs.map txR)) S1 K :=
  h.l.apps h.len (by simpa using hl) fun v' S2 k2 f2 i2 => k v' S2 ⟨by rw [List.map_append]; exact k2, f2.ext h.ext fun i hi => (h.l.lt hi).2⟩ f2 i2
theorem itsW_next {l : List Itm} {k : Nat} {x : Itm} (h : l[k]? = some x) : itsW (l.take (k + 1)) = itsW (l.take k) ++ itmW x := by
  unfold itsW
  rw [take_at h]
  simp
theorem txsW_next {l : List Chg} {k : Nat} {x : Chg} (h : l[k]? = some x) : txsW (l.take (k + 1)) = txsW (l.take k) ++ chgW x := by
  unfold txsW
  rw [take_at h]
  simp
theorem mp_A (n : Int) (h : okB n = true) (S : Store) : CallA Tryd.prog 26 [.int .i64 n] S fun r S' => r = .str (amW n) ∧ S' = S := by
  have hb := okB_iff.1 h
  have := mprint_A n.toNat (by omega) S
  rw [show ((n.toNat : Nat) : Int) = n by omega] at this
  exact this
set_option maxHeartbeats 4000000 in
theorem print_A (c : Cal) (hcl : ∀ x ∈ c.its, x.cs.length ≤ 1000000000 ∧ x.ks.length ≤ 1000000000) (l1 : c.its.length ≤ 1000000000) (l2 : c.txs.length ≤ 1000000000) (S : Store) :
    CallA Tryd.prog 12 [.agg (calR c)] S fun r S' => r = .tup [.str (priF c).1, .int .i64 (priF c).2] ∧ S' = S := by
  refine CallA.withNeat Tryd.func12 c10012 fun hn => ?_
  refine CallA.fin Tryd.func12 c10012 (Nat.le_of_ble_eq_true rfl) fun σ hσ => ?_
  have ck := fun S => chk_A c hcl l1 l2 S
  unfold priF
  simp only [calR] at ck
  simp (disch := first | omega | (simp only [lenT]; omega)) only [a10012, calR, evSt, ↓evPre, ↓evPreW, evPost, evPostW, evR, evU, seval]
  refine (ck _).then ?_
  by_cases he : chkF c = 0
  case neg =>
    simp (disch := first | omega | (simp only [lenT]; omega)) only [dF he, he, if_false, evSt, ↓evPre, ↓evPreW, evPost, evPostW, evR, evU, seval]
    exact ⟨_, S, hn.self, .imm rfl, Nat.le_refl _, rfl, rfl⟩
  have hok := chk_ok he
  have hwd := prW_wd hok
  rw [he, if_pos rfl]
  have hi := its_ok hok.its
  have ht := txs_ok hok.txs
  obtain ⟨x0, hx0⟩ : ∃ x, c.its[0]? = some x := ⟨_, List.getElem?_eq_getElem (by have := hok.n1; omega)⟩
  have hx0s := hi x0 (List.mem_of_getElem? hx0)
  obtain ⟨c0, hc0⟩ : ∃ t, x0.cs[0]? = some t := ⟨_, List.getElem?_eq_getElem (List.length_pos_iff.2 (sz_ne hx0s.1))⟩
  have hpr : prW c = (([c0] ++ itsW c.its) ++ [faW, amW c.fare]) ++ txsW c.txs ++ [toW, amW c.tot] := by
    unfold prW
    rw [List.head?_eq_getElem?, hx0, Option.bind_some, List.head?_eq_getElem?, hc0]
    rfl
  obtain ⟨ws, hws⟩ : ∃ ws, ws = prW c := ⟨_, rfl⟩
  rw [← hws] at hwd hpr ⊢
  simp (disch := first | omega | (simp only [lenT]; omega)) only [hx0, hc0, itmR, txR, evSt, ↓evPre, ↓evPreW, evPost, evPostW, evR, evU, seval]
  have hP0 : PrS S ([c0] ++ itsW (c.its.take 0)) (.msl S.length 0 0 1) (S ++ [⟨0, some (.arr 9 1 [[.str c0]])⟩]) := ⟨.inr ⟨S.length, 0, Nat.le_refl _, rfl, ob_app0.trans ob_head⟩, ⟨_, rfl⟩⟩
  have hil : ∀ k, (itsW (c.its.take k)).length ≤ 100 := fun k => by
    have := itsW_len (l := c.its.take k) fun x hx => (hi x (List.mem_of_mem_take hx)).1
    rw [List.length_take] at this
    have := hok.n6
    omega
  have htl : ∀ k, (txsW (c.txs.take k)).length ≤ 2000 := fun k => by
    have := txsW_len (c.txs.take k)
    rw [List.length_take] at this
    have := hok.n512
    omega
  have hcL := hok.n6
  have hcT := hok.n512
  refine loopF (ι := Nat × V × Store) (fun i => [(1, .cptr (calR c)), (5, i.2.1), (26, .sl 4 (c.its.map itmR)), (27, .int .i64 c.its.length), (28, .int .i64 i.1)]) (fun i => i.2.2)
    (fun i => i.1 ≤ c.its.length ∧ PrS S ([c0] ++ itsW (c.its.take i.1)) i.2.1 i.2.2) (fun i => c.its.length - i.1)
    (fun i hi => by rw [hσ]; exact hi.2.len) (0, .msl S.length 0 0 1, _) ⟨Nat.zero_le _, hP0⟩ (.inl ⟨?_, rfl⟩) ?_
  · simp only [calR, ↓evPre, ↓evPreW, evPost, evPostW, evR, evU, seval]
    try rfl
  clear hP0
  rintro ⟨k, v, S1⟩ ⟨hk, hP⟩
  simp only at hk hP ⊢
  have hilk := hil k
  cases hcx : c.its[k]? with
  | some x =>
    have hlt' := (List.getElem?_eq_some_iff.1 hcx).1
    have hlt : ((k : Int) < c.its.length) := by omega
    have hk1 : (k : Int) + 1 = ((k + 1 : Nat) : Int) := by omega
    obtain ⟨x1, x2, x3⟩ := hi x (List.mem_of_getElem? hcx)
    have xl := hcl x (List.mem_of_getElem? hcx)
    have hsz : 1 ≤ x.ks.length ∧ x.ks.length ≤ 6 ∧ x.cs.length = x.ks.length + 1 := by
      unfold szB at x1
      simp only [Bool.and_eq_true, decide_eq_true_eq] at x1
      omega
    simp (disch := first | omega | (simp only [lenT]; omega)) only [dT hlt, hcx, itmR, calR, evSt, ↓evPre, ↓evPreW, evPost, evPostW, evR, evU, seval]
    have hP1 := hP.add [⟨0, some (.arr 72 4 [itmR x])⟩]
    have hb1 : Store.obj? (S1 ++ [⟨0, some (.arr 72 4 [itmR x])⟩]) S1.length 0 = some (72, 4, [itmR x]) := ob_app0.trans ob_head
    refine loopF (ι := Nat × V × Store) (fun i => [(1, .cptr (calR c)), (5, i.2.1), (7, .ptr S1.length 0 0 0), (26, .sl 4 (c.its.map itmR)), (27, .int .i64 c.its.length), (28, .int .i64 k), (33, .sl 1 (x.ks.map txR)), (34, .int .i64 x.ks.length), (35, .int .i64 i.1)]) (fun i => i.2.2)
      (fun i => i.1 ≤ x.ks.length ∧ PrS S (([c0] ++ itsW (c.its.take k)) ++ legsW (x.ks.take i.1) (x.cs.tail.take i.1)) i.2.1 i.2.2 ∧ i.2.2.obj? S1.length 0 = some (72, 4, [itmR x]) ∧ ∀ j, idOf i.2.1 j → j ≠ S1.length) (fun i => x.ks.length - i.1)
      (fun i hi => by rw [hσ]; exact hi.2.1.len) (0, v, _) ⟨Nat.zero_le _, by simpa [legsW] using hP1, hb1, fun j hj => by have := (hP.l.lt hj).1; omega⟩ (.inl ⟨?_, rfl⟩) ?_
    · simp only [itmR, calR, ↓evPre, ↓evPreW, evPost, evPostW, evR, evU, seval]
      try rfl
    clear hP1 hb1 hP v
    rintro ⟨i, v, S2⟩ ⟨hik, hP, hb, hd⟩
    simp only at hik hP hb hd ⊢
    have hgl := legsW_len (x.ks.take i) (x.cs.tail.take i)
    rw [List.length_take] at hgl
    unfold itmR at hb
    cases hcy : x.ks[i]? with
    | some t =>
      have hlt2' := (List.getElem?_eq_some_iff.1 hcy).1
      have hlt2 : ((i : Int) < x.ks.length) := by omega
      have hi1 : (i : Int) + 1 = ((i + 1 : Nat) : Int) := by omega
      obtain ⟨d, hd1⟩ : ∃ d, x.cs[i + 1]? = some d := ⟨_, List.getElem?_eq_getElem (by omega)⟩
      have hd2 : x.cs.tail[i]? = some d := by rw [List.getElem?_tail]; exact hd1
      simp (disch := first | omega | (simp only [lenT]; omega)) only [dT hlt2, hcy, hb, txR, wrap_i64, hi1, hd1, evSt, ↓evPre, ↓evPreW, evPost, evPostW, evR, evU, seval]
      refine hP.app (rs := [t, d]) (by simp; omega) fun v' S3 hP3 f3 i3 => ?_
      have hb3 := f3.obj hb fun hj => hd _ hj rfl
      have hS2 := obj_lt hb
      simp (disch := first | omega | (simp only [lenT]; omega)) only [wrap_i64, hi1, evSt, ↓evPre, ↓evPreW, evPost, evPostW, evR, evU, seval]
      refine ⟨(i + 1, v', S3), ⟨by simp only; omega, ?_, hb3, fun j hj => ?_⟩, by simp only; omega, .inl ⟨by simp only [↓evPre, ↓evPreW, evPost, evPostW, evR, evU, seval]; try rfl, rfl⟩⟩
      · simp only
        rw [legsW_next hcy hd2, ← List.append_assoc]
        exact hP3
      · rcases i3 j hj with hj | hj
        · exact hd j hj
        · omega
    | none =>
      have hge : x.ks.length ≤ i := List.getElem?_eq_none_iff.1 hcy
      have hlt2 : ¬ ((i : Int) < x.ks.length) := by omega
      have e2 : x.cs.tail.take i = x.cs.tail := List.take_of_length_le (by rw [List.length_tail]; omega)
      rw [List.take_of_length_le hge, e2] at hP
      have mp := fun S => mp_A x.am x3 S
      have hgl := legsW_len x.ks x.cs.tail
      simp (disch := first | omega | (simp only [lenT]; omega)) only [dF hlt2, hb, evSt, ↓evPre, ↓evPreW, evPost, evPostW, evR, evU, seval]
      refine exD.intro (mp _) ?_
      simp (disch := first | omega | (simp only [lenT]; omega)) only [evSt, ↓evPre, ↓evPreW, evPost, evPostW, evR, evU, seval]
      refine hP.app (rs := [amW x.am, x.ba]) (by simp; omega) fun v' S3 hP3 f3 i3 => ?_
      simp (disch := first | omega | (simp only [lenT]; omega)) only [wrap_i64, hk1, evSt, ↓evPre, ↓evPreW, evPost, evPostW, evR, evU, seval]
      refine ⟨(k + 1, v', S3), ⟨by simp only; omega, ?_⟩, by simp only; omega, .inl ⟨by simp only [calR, ↓evPre, ↓evPreW, evPost, evPostW, evR, evU, seval]; try rfl, rfl⟩⟩
      simp only
      rw [itsW_next hcx]
      unfold itmW
      simp only [List.append_assoc] at hP3 ⊢
      exact hP3
  | none =>
    have hge : c.its.length ≤ k := List.getElem?_eq_none_iff.1 hcx
    have hlt : ¬ ((k : Int) < c.its.length) := by omega
    rw [List.take_of_length_le hge] at hP hilk
    clear hcx hge hk
    have mf := fun S => mp_A c.fare hok.fare S
    simp (disch := first | omega | (simp only [lenT]; omega)) only [dF hlt, calR, evSt, ↓evPre, ↓evPreW, evPost, evPostW, evR, evU, seval]
    refine (mf _).then ?_
    simp (disch := first | omega | (simp only [lenT]; omega)) only [evSt, ↓evPre, ↓evPreW, evPost, evPostW, evR, evU, seval]
    refine hP.app (rs := [faW, amW c.fare]) (by simp; omega) fun v' S3 hP3 f3 i3 => ?_
    simp (disch := first | omega | (simp only [lenT]; omega)) only [evSt, ↓evPre, ↓evPreW, evPost, evPostW, evR, evU, seval]
    refine loopF (ι := Nat × V × Store) (fun i => [(1, .cptr (calR c)), (5, i.2.1), (67, .sl 2 (c.txs.map chgR)), (68, .int .i64 c.txs.length), (69, .int .i64 i.1)]) (fun i => i.2.2)
      (fun i => i.1 ≤ c.txs.length ∧ PrS S ((([c0] ++ itsW c.its) ++ [faW, amW c.fare]) ++ txsW (c.txs.take i.1)) i.2.1 i.2.2) (fun i => c.txs.length - i.1)
      (fun i hi => by rw [hσ]; exact hi.2.len) (0, v', S3) ⟨Nat.zero_le _, by simpa [txsW] using hP3⟩ (.inl ⟨?_, rfl⟩) ?_
    · simp only [calR, ↓evPre, ↓evPreW, evPost, evPostW, evR, evU, seval]
      try rfl
    clear hP hP3 f3 i3 v' S3 hlt k v S1
    rintro ⟨k, v, S1⟩ ⟨hk, hP⟩
    simp only at hk hP ⊢
    have htlk := htl k
    cases hcx : c.txs[k]? with
    | some x =>
      have hlt' := (List.getElem?_eq_some_iff.1 hcx).1
      have hlt : ((k : Int) < c.txs.length) := by omega
      have hk1 : (k : Int) + 1 = ((k + 1 : Nat) : Int) := by omega
      have hx := ht x (List.mem_of_getElem? hcx)
      have mp := fun S => mp_A x.am hx.2 S
      simp (disch := first | omega | (simp only [lenT]; omega)) only [dT hlt, hcx, chgR, calR, evSt, ↓evPre, ↓evPreW, evPost, evPostW, evR, evU, seval]
      refine exD.intro (mp _) ?_
      simp (disch := first | omega | (simp only [lenT]; omega)) only [evSt, ↓evPre, ↓evPreW, evPost, evPostW, evR, evU, seval]
      refine (hP.add _).app (rs := [txW, x.co, amW x.am]) (by simp; omega) fun v' S3 hP3 f3 i3 => ?_
      simp (disch := first | omega | (simp only [lenT]; omega)) only [wrap_i64, hk1, evSt, ↓evPre, ↓evPreW, evPost, evPostW, evR, evU, seval]
      refine ⟨(k + 1, v', S3), ⟨by simp only; omega, ?_⟩, by simp only; omega, .inl ⟨by simp only [calR, ↓evPre, ↓evPreW, evPost, evPostW, evR, evU, seval]; try rfl, rfl⟩⟩
      simp only
      rw [txsW_next hcx]
      unfold chgW
      simp only [List.append_assoc] at hP3 ⊢
      exact hP3
    | none =>
      have hge : c.txs.length ≤ k := List.getElem?_eq_none_iff.1 hcx
      have hlt : ¬ ((k : Int) < c.txs.length) := by omega
      rw [List.take_of_length_le hge] at hP htlk
      have mt := fun S => mp_A c.tot hok.tot S
      simp (disch := first | omega | (simp only [lenT]; omega)) only [dF hlt, calR, evSt, ↓evPre, ↓evPreW, evPost, evPostW, evR, evU, seval]
      refine (mt _).then ?_
      simp (disch := first | omega | (simp only [lenT]; omega)) only [evSt, ↓evPre, ↓evPreW, evPost, evPostW, evR, evU, seval]
      refine hP.app (rs := [toW, amW c.tot]) (by simp; omega) fun v' S3 hP3 f3 i3 => ?_
      simp (disch := first | omega | (simp only [lenT]; omega)) only [evSt, ↓evPre, ↓evPreW, evPost, evPostW, evR, evU, seval]
      rw [← hpr] at hP3
      have hwl : ws.length ≤ 3000 := by rw [hpr]; simp; omega
      obtain ⟨T, hT⟩ := hP3.ext
      subst hT
      have hfz : Frz (S ++ T) (S ++ kill T) v' (txSl ws) := by
        rcases hP3.l with ⟨rfl, hr⟩ | ⟨id, ver, h1, rfl, h3⟩
        · unfold txSl; rw [hr]; exact .nil
        · exact .dead (dead_kill h1) h3 rfl (tx_imm ws)
      refine (CallA.killedL hn (args := [v']) (tjoin_A ws (fun t ht => (hwd t ht).1) (by omega) (by have := join_len [32] 30 ws fun t ht => (hwd t ht).2; unfold lineF; simp at this; omega) (S ++ kill T)) ⟨hfz, trivial⟩).mono ?_
      rintro r S4 ⟨rfl, rfl⟩
      simp (disch := first | omega | (simp only [lenT]; omega)) only [evSt, ↓evPre, ↓evPreW, evPost, evPostW, evR, evU, seval]
      exact ⟨_, S, hn.fgt _, .imm rfl, Nat.le_refl _, rfl, rfl⟩
end Go.Proofs.YtkdbghhdklfoiaaDoor
