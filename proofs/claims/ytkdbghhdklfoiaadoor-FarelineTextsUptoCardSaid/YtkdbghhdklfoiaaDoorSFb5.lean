/- Plain: what was printed is read. -/
import Derived.Test.YtkdbghhdklfoiaaDoorSFb3
namespace Go.Proofs.YtkdbghhdklfoiaaDoor
open Go Go.AL Go.RowKit
set_option linter.unusedSectionVars false
variable [Go.AL.Mode] [Go.AL.LooseM]
set_option linter.unusedSimpArgs false
set_option linter.unusedVariables false
theorem drop_get {α : Type} {s : List α} {i : Nat} {c : α} {r : List α} (h : s.drop i = c :: r) : s[i]? = some c ∧ s.drop (i + 1) = r := by
  have h1 : (s.drop i)[0]? = some c := by rw [h]; rfl
  rw [List.getElem?_drop, Nat.add_zero] at h1
  refine ⟨h1, ?_⟩
  rw [← List.drop_drop, h]
  rfl
theorem run_plain {s : Txt} {f : Nat} {ps : List Txt} : ∀ {w r : Txt} {i : Nat}, s.drop i = w ++ r → w.all plainC = true → cutRun s i = ⟨f, false, false, ps⟩ → cutRun s (i + w.length) = ⟨f, false, false, ps⟩
  | [], r, i, _, _, h => h
  | c :: w, r, i, hd, hp, h => by
    rw [List.cons_append] at hd
    obtain ⟨h1, h2⟩ := drop_get hd
    rw [List.all_cons, Bool.and_eq_true] at hp
    have hc := hp.1
    unfold plainC at hc
    simp only [decide_eq_true_eq] at hc
    have h3 : cutRun s (i + 1) = ⟨f, false, false, ps⟩ := by
      rw [cutRun, h1, h]
      show cutStep _ _ _ _ = _
      unfold cutStep
      rw [if_neg (by simp), if_neg (by simp), if_neg (by omega), if_neg (by omega)]
    have := run_plain h2 hp.2 h3
    rw [List.length_cons, show i + (w.length + 1) = i + 1 + w.length by omega]
    exact this
theorem run_blank {s : Txt} {i f : Nat} {ps : List Txt} (h : s[i]? = some 32) (hr : cutRun s i = ⟨f, false, false, ps⟩) : cutRun s (i + 1) = ⟨i + 1, false, false, ps ++ [(s.take i).drop f]⟩ := by
  rw [cutRun, h, hr]
  show cutStep _ _ _ _ = _
  unfold cutStep
  rw [if_neg (by simp), if_neg (by simp), if_neg (by decide), if_pos ⟨rfl, rfl⟩]
theorem plain_ne {w : Txt} (h : plainF w = true) : w ≠ [] ∧ w.all plainC = true := by
  unfold plainF at h
  rw [Bool.and_eq_true, decide_eq_true_eq] at h
  exact h
theorem run_words {s : Txt} : ∀ {ws : List Txt} {i : Nat} {ps : List Txt}, ws ≠ [] → (∀ w ∈ ws, plainF w = true) → s.drop i = Lib.join ws [32] → cutRun s i = ⟨i, false, false, ps⟩ → (cutRun s s.length).ps ++ [s.drop (cutRun s s.length).fr] = ps ++ ws
  | [], _, _, h, _, _, _ => absurd rfl h
  | [w], i, ps, _, hp, hd, hr => by
    obtain ⟨h1, h2⟩ := plain_ne (hp w (List.mem_cons_self ..))
    rw [Lib.join_one] at hd
    have hl := congrArg List.length hd
    rw [List.length_drop] at hl
    have := List.length_pos_iff.2 h1
    have h3 := run_plain (r := []) (by simpa using hd) h2 hr
    rw [show i + w.length = s.length by omega] at h3
    rw [h3]
    simp only
    rw [hd]
  | w :: w2 :: l, i, ps, _, hp, hd, hr => by
    obtain ⟨h1, h2⟩ := plain_ne (hp w (List.mem_cons_self ..))
    have hj : Lib.join (w :: w2 :: l) [32] = w ++ 32 :: Lib.join (w2 :: l) [32] := by
      rw [Lib.join_cons, Lib.join_cons]
      simp [Lib.joinTail]
    rw [hj] at hd
    have h3 := run_plain hd h2 hr
    have h4 : s.drop (i + w.length) = 32 :: Lib.join (w2 :: l) [32] := by
      rw [← List.drop_drop, hd, List.drop_left]
    obtain ⟨h5, h6⟩ := drop_get h4
    have h7 := run_blank h5 h3
    have h8 : (s.take (i + w.length)).drop i = w := by
      rw [List.drop_take, hd, Nat.add_sub_cancel_left, List.take_left]
    rw [h8] at h7
    have h9 := run_words (by simp) (fun w' hw' => hp w' (List.mem_cons_of_mem _ hw')) h6 h7
    rw [h9, List.append_assoc]
    rfl
theorem plain_ok {c : UInt8} (h : plainC c = true) : okC c = true := by
  unfold plainC at h
  unfold okC
  simp only [decide_eq_true_eq] at *
  omega
theorem tail_ok : ∀ {ws : List Txt}, (∀ w ∈ ws, plainF w = true) → (Lib.joinTail [32] ws).all okC = true
  | [], _ => rfl
  | w :: l, h => by
    have h1 := tail_ok (ws := l) fun t ht => h t (List.mem_cons_of_mem _ ht)
    have h2 := (plain_ne (h w (List.mem_cons_self ..))).2
    unfold Lib.joinTail at *
    simp only [List.map_cons, List.flatten_cons, List.all_append, Bool.and_eq_true]
    exact ⟨⟨by decide, List.all_eq_true.2 fun c hc => plain_ok (List.all_eq_true.1 h2 c hc)⟩, h1⟩
theorem words_line (u : Txt → Option Txt) {ws : List Txt} (hne : ws ≠ []) (hp : ∀ w ∈ ws, plainF w = true) : wordsF u (lineF ws) = some ws ∧ cutF (lineF ws) = some ws := by
  obtain ⟨w, l, rfl⟩ : ∃ w l, ws = w :: l := by cases ws with
    | nil => exact absurd rfl hne
    | cons w l => exact ⟨w, l, rfl⟩
  have hw := plain_ne (hp w (List.mem_cons_self ..))
  have hok : (lineF (w :: l)).all okC = true := by
    unfold lineF
    rw [Lib.join_cons, List.all_append, tail_ok fun t ht => hp t (List.mem_cons_of_mem _ ht), Bool.and_true]
    exact List.all_eq_true.2 fun c hc => plain_ok (List.all_eq_true.1 hw.2 c hc)
  have hcut : cutF (lineF (w :: l)) = some (w :: l) := by
    unfold cutF
    rw [if_pos hok, run_words (ws := w :: l) (i := 0) (ps := []) (by simp) hp (by rfl) rfl]
    rfl
  have hne2 : lineF (w :: l) ≠ [] := by
    unfold lineF
    rw [Lib.join_cons]
    intro e
    exact hw.1 (List.append_eq_nil_iff.1 e).1
  refine ⟨?_, hcut⟩
  unfold wordsF
  rw [if_neg hne2, hcut]
  exact wordsL_plain u _ hp
theorem wd_cons (w : Txt) (l : List Txt) : wdF ⟨w :: l, 0⟩ = (w, ⟨l, 0⟩) := rfl
theorem nx_cons (w : Txt) (l : List Txt) : nxF (w :: l) 0 = w := rfl
theorem mu_cons (w : Txt) (l : List Txt) : muF w ⟨w :: l, 0⟩ = ⟨l, 0⟩ := by
  unfold muF
  rw [wd_cons, if_neg (fun h => h.1 rfl)]
theorem am_cons {n : Int} (h : okB n = true) (l : List Txt) : amF ⟨amW n :: l, 0⟩ = (n, ⟨l, 0⟩) := by
  have hb := okB_iff.1 h
  unfold amF
  rw [wd_cons]
  simp only
  unfold amW
  rw [mpar_amt n.toNat (by omega), if_pos trivial]
  simp only [Prod.mk.injEq, and_true]
  omega
theorem itL_legs {a : Txt} {R : List Txt} (ha : a.length ≠ 2) : ∀ {ks cs : List Txt} {n : Nat}, ks.length = cs.length → 1 ≤ ks.length → ks.length ≤ n → (∀ k ∈ ks, k.length = 2) → itL n ⟨legsW ks cs ++ a :: R, 0⟩ = (ks.zip cs, ⟨a :: R, 0⟩)
  | [], _, _, _, h, _, _ => by simp at h
  | _ :: _, [], _, h, _, _, _ => by simp at h
  | _, _, 0, _, h1, h2, _ => by omega
  | [k], [c], n + 1, _, _, _, _ => by
    simp only [legsW, List.cons_append, List.nil_append]
    unfold itL
    rw [wd_cons]
    simp only
    rw [wd_cons]
    simp only
    rw [nx_cons, if_neg ha]
    rfl
  | [_], _ :: _ :: _, _, h, _, _, _ => by simp at h
  | _ :: _ :: _, [_], _, h, _, _, _ => by simp at h
  | k :: k2 :: ks, c :: c2 :: cs, n + 1, hl, _, hn, hk => by
    have ih := itL_legs (R := R) ha (ks := k2 :: ks) (cs := c2 :: cs) (n := n) (by simpa using hl) (by simp) (by simp only [List.length_cons] at *; omega) fun t ht => hk t (List.mem_cons_of_mem _ ht)
    have h2 := hk k2 (by simp)
    rw [legsW, List.cons_append, List.cons_append]
    unfold itL
    rw [wd_cons]
    simp only
    rw [wd_cons]
    simp only
    rw [show legsW (k2 :: ks) (c2 :: cs) ++ a :: R = k2 :: (c2 :: legsW ks cs ++ a :: R) from rfl, nx_cons, if_pos h2]
    rw [show legsW (k2 :: ks) (c2 :: cs) ++ a :: R = k2 :: (c2 :: legsW ks cs ++ a :: R) from rfl] at ih
    rw [ih]
    rfl
theorem sz_inv {x : Itm} (h : szB x = true) : 1 ≤ x.ks.length ∧ x.ks.length ≤ 6 ∧ x.cs.length = x.ks.length + 1 := by
  unfold szB at h
  simp only [Bool.and_eq_true, decide_eq_true_eq] at h
  omega
theorem ks_two {x : Itm} (h : nmB x = true) : ∀ k ∈ x.ks, k.length = 2 := by
  unfold nmB at h
  rw [Bool.and_eq_true] at h
  exact fun k hk => (car_plain (List.all_eq_true.1 h.2 k hk)).2
theorem itF_read {x : Itm} {c : Txt} {R : List Txt} (h1 : szB x = true) (h2 : nmB x = true) (h3 : okB x.am = true) (hc : x.cs.head? = some c) : itF c ⟨itmW x ++ R, 0⟩ = (x, ⟨R, 0⟩) := by
  obtain ⟨a, b, d⟩ := sz_inv h1
  have hk := ks_two h2
  obtain ⟨cs, ks, am, ba⟩ := x
  simp only at *
  obtain ⟨cs, rfl⟩ : ∃ l, cs = c :: l := by
    cases cs with
    | nil => cases hc
    | cons y l => simp only [List.head?_cons, Option.some.injEq] at hc; subst hc; exact ⟨l, rfl⟩
  have hl : ks.length = cs.length := by simp at d; omega
  have ha := am_plain h3
  unfold itF itmW
  simp only [List.tail_cons, List.append_assoc, List.cons_append, List.nil_append]
  have hgl : ks.length ≤ (legsW ks cs ++ amW am :: ba :: R).length + 1 := by
    have : ∀ (ks cs : List Txt), ks.length = cs.length → (legsW ks cs).length = 2 * ks.length := by
      intro ks
      induction ks with
      | nil => intro cs h; rfl
      | cons k ks ih =>
        intro cs h
        cases cs with
        | nil => simp at h
        | cons c cs => simp only [legsW, List.length_cons, ih cs (by simpa using h)]; omega
    rw [List.length_append, this ks cs hl]
    omega
  rw [itL_legs (by omega) hl a hgl hk]
  simp only
  rw [am_cons h3]
  simp only
  rw [wd_cons, List.map_snd_zip (by omega), List.map_fst_zip (by omega)]
theorem itmW_head {x : Itm} (h1 : szB x = true) (h2 : nmB x = true) : ∃ k l, itmW x = k :: l ∧ k.length = 2 := by
  obtain ⟨a, b, d⟩ := sz_inv h1
  have hk := ks_two h2
  obtain ⟨cs, ks, am, ba⟩ := x
  simp only at *
  match ks, cs, a, d with
  | k :: ks, c :: c2 :: cs, _, _ => exact ⟨k, _, rfl, hk k (by simp)⟩
theorem its_read {a : Txt} {R : List Txt} (ha : a.length ≠ 2) : ∀ {l : List Itm} {last : Option Txt} {c : Txt} {n : Nat}, itsErr last l = 0 → (∀ x, l.head? = some x → x.cs.head? = some c) → l.length < n → itsL n c ⟨itsW l ++ a :: R, 0⟩ = (l, ⟨a :: R, 0⟩)
  | _, _, _, 0, _, _, h => by omega
  | [], last, c, n + 1, _, _, _ => by
    unfold itsL itsW
    simp only [List.flatMap_nil, List.nil_append]
    rw [nx_cons, if_neg ha]
  | x :: l, last, c, n + 1, he, hc, hn => by
    rw [itsErr] at he
    by_cases hx : itmErr last x = 0
    case neg => rw [if_neg hx] at he; exact absurd he hx
    rw [if_pos hx] at he
    obtain ⟨o1, o2, o3, o4⟩ := itm_ok hx
    obtain ⟨k, m, hk, hk2⟩ := itmW_head o1 o2
    have h1 : itsW (x :: l) ++ a :: R = itmW x ++ (itsW l ++ a :: R) := by unfold itsW; simp
    rw [h1]
    unfold itsL
    have h2 : nxF (itmW x ++ (itsW l ++ a :: R)) 0 = k := by rw [hk]; rfl
    simp only
    rw [h2, if_pos hk2, itF_read o1 o2 o4 (hc x rfl)]
    simp only
    rw [its_read ha he (fun y hy => ?_) (by simp only [List.length_cons] at hn; omega)]
    cases l with
    | nil => cases hy
    | cons z l =>
      simp only [List.head?_cons, Option.some.injEq] at hy
      subst hy
      rw [itsErr] at he
      have hz : itmErr x.cs.getLast? z = 0 := by
        by_cases hz : itmErr x.cs.getLast? z = 0
        · exact hz
        · rw [if_neg hz] at he; exact absurd he hz
      have hl := (itm_ok hz).2.2.1
      cases hg : x.cs.getLast? with
      | none => exact absurd (List.getLast?_eq_none_iff.1 hg) (sz_ne o1)
      | some t =>
        rw [hg] at hl
        simpa [lgB] using hl
theorem txs_read {a : Txt} {R : List Txt} (ha : a ≠ txW) : ∀ {l : List Chg} {n : Nat}, txsErr l = 0 → l.length < n → txL n ⟨txsW l ++ a :: R, 0⟩ = (l, ⟨a :: R, 0⟩)
  | _, 0, _, h => by omega
  | [], n + 1, _, _ => by
    unfold txL txsW
    simp only [List.flatMap_nil, List.nil_append]
    rw [nx_cons, if_neg ha]
  | x :: l, n + 1, he, hn => by
    have hx := txs_ok he x (List.mem_cons_self ..)
    have he2 : txsErr l = 0 := by
      rw [txsErr] at he
      by_cases hz : txErr x = 0
      · rw [if_pos hz] at he; exact he
      · rw [if_neg hz] at he; exact absurd he hz
    have h1 : txsW (x :: l) ++ a :: R = txW :: x.co :: amW x.am :: (txsW l ++ a :: R) := by unfold txsW; simp [chgW]
    rw [h1]
    unfold txL
    simp only
    rw [nx_cons, if_pos rfl]
    unfold t2F t1F
    rw [wd_cons]
    simp only
    rw [wd_cons]
    simp only
    rw [am_cons hx.2]
    simp only
    rw [txs_read ha he2 (by simp only [List.length_cons] at hn; omega)]
theorem par_pr {c : Cal} (h : chkF c = 0) : parW (prW c) = (c, 0) := by
  have hok := chk_ok h
  have hi := its_ok hok.its
  obtain ⟨x0, l0, hx0⟩ : ∃ x l, c.its = x :: l := by
    cases hc : c.its with
    | nil => have := hok.n1; rw [hc] at this; simp at this
    | cons x l => exact ⟨x, l, rfl⟩
  have hx := hi x0 (by rw [hx0]; exact List.mem_cons_self ..)
  obtain ⟨c0, l1, hc0⟩ : ∃ t l, x0.cs = t :: l := by
    cases hc : x0.cs with
    | nil => exact absurd hc (sz_ne hx.1)
    | cons x l => exact ⟨x, l, rfl⟩
  have hpr : prW c = c0 :: (itsW c.its ++ faW :: amW c.fare :: (txsW c.txs ++ toW :: [amW c.tot])) := by
    unfold prW
    rw [hx0, List.head?_cons, Option.bind_some, hc0]
    simp
  have hil : c.its.length < (prW c).length + 1 := by
    have : ∀ l : List Itm, l.length ≤ (itsW l).length := by
      intro l
      induction l with
      | nil => simp
      | cons x l ih => unfold itsW at *; simp only [List.flatMap_cons, List.length_append, itmW, List.length_cons, List.length_nil]; omega
    have := this c.its
    rw [hpr]
    simp only [List.length_cons, List.length_append]
    omega
  have htl : c.txs.length < (prW c).length + 1 := by
    have := txsW_len c.txs
    rw [hpr]
    simp only [List.length_cons, List.length_append]
    omega
  have hrd : rdF (prW c) = (c, ⟨[], 0⟩) := by
    unfold rdF
    simp only
    generalize hn : (prW c).length + 1 = n at *
    rw [hpr, wd_cons]
    simp only
    rw [its_read (by decide) hok.its (fun x hx => by rw [hx0, List.head?_cons, Option.some.injEq] at hx; subst hx; rw [hc0]; rfl) hil]
    simp only
    rw [mu_cons, am_cons hok.fare]
    simp only
    rw [txs_read (by decide) hok.txs htl]
    simp only
    rw [mu_cons, am_cons hok.tot]
  unfold parW
  rw [hrd]
  have he : e2F (c, ⟨[], 0⟩) = 0 := by
    unfold e2F e1F
    simp [h]
  rw [he]
  obtain ⟨k, m, hk, hk2⟩ := itmW_head hx.1 hx.2.1
  have hnx : (nxF (wdF ⟨prW c, 0⟩).2.ws (wdF ⟨prW c, 0⟩).2.e).length = 2 := by
    rw [hpr, wd_cons]
    simp only
    unfold itsW
    rw [hx0, List.flatMap_cons, hk]
    exact hk2
  rw [if_pos hnx, if_pos rfl]
theorem prW_ne (c : Cal) : prW c ≠ [] := by unfold prW; simp
theorem par_line (u : Txt → Option Txt) {c : Cal} (h : chkF c = 0) : parF u (lineF (prW c)) = (c, 0) ∧ cutF (lineF (prW c)) = some (prW c) := by
  obtain ⟨h1, h2⟩ := words_line u (prW_ne c) fun w hw => (prW_wd (chk_ok h) w hw).1
  refine ⟨?_, h2⟩
  unfold parF
  rw [h1]
  exact par_pr h
end Go.Proofs.YtkdbghhdklfoiaaDoor
/- Fare calculations copied and compared. -/
namespace Go.Proofs.YtkdbghhdklfoiaaDoor
open Go Go.AL Go.RowKit
set_option linter.unusedSectionVars false
variable [Go.AL.Mode] [Go.AL.LooseM]
set_option linter.unusedSimpArgs false
set_option linter.unusedVariables false
structure OfS (T q : TypeId) (S : Store) (its : List Itm) (v : V) (row : List V) (S1 : Store) : Prop where
  b0 : S1.obj? S.length 0 = some (T, 4, [[.nilSl, .nilSl, .int .i64 0, .int .i64 0]])
  bx : S1.obj? (S.length + 1) 0 = some (T, 4, [row])
  l : Lst (S.length + 2) S1 q 4 (its.map itmR) v
  ext : ∃ X, S1 = S ++ X
section
variable {T q : TypeId} {S : Store} {its : List Itm} {v : V} {row : List V} {S1 : Store}
theorem OfS.len (h : OfS T q S its v row S1) : S.length + 2 ≤ S1.length := by
  have := obj_lt h.bx
  omega
theorem OfS.add (h : OfS T q S its v row S1) (X : Store) : OfS T q S its v row (S1 ++ X) := by
  have f := Frm.add (fun _ => False) S1 X
  exact ⟨f.obj h.b0 id, f.obj h.bx id, h.l.frm f fun _ _ h => h, f.ext h.ext fun _ h => h.elim⟩
theorem OfS.box (h : OfS T q S its v row S1) (row2 : List V) : OfS T q S its v row2 (S1.set (S.length + 1) ⟨0, some (.arr T 4 [row2])⟩) := by
  have f := frm_set S1 (S.length + 1) ⟨0, some (.arr T 4 [row2])⟩
  exact ⟨f.obj h.b0 (by omega), obj_set h.bx, h.l.frm f fun i hi => by have := (h.l.lt hi).2; omega, f.ext h.ext fun i hi => by omega⟩
theorem OfS.setG (h : OfS T q S its v row S1) {b : Nat} (hb : S.length + 2 ≤ b) (h1 : ∀ i, idOf v i → i ≠ b) (o : Go.AL.Obj) : OfS T q S its v row (S1.set b o) := by
  have f := frm_set S1 b o
  exact ⟨f.obj h.b0 (by omega), f.obj h.bx (by omega), h.l.frm f h1, f.ext h.ext fun i hi => by omega⟩
theorem OfS.app (h : OfS T q S its v row S1) {x : Itm} {K : V → Store → Prop} (hl : its.length ≤ 1000000) (k : ∀ v' S2, OfS T q S (its ++ [x]) v' row S2 → Frm (idOf v) S1 S2 → (∀ i, idOf v' i → idOf v i ∨ S1.length ≤ i) → K v' S2) : appK q 4 v (some (4, [itmR x])) S1 K := by
  have hln := h.len
  refine h.l.app (by omega) (by simpa using hl) fun v' S2 k2 f2 i2 => k v' S2 ⟨f2.obj h.b0 (fun hi => by have := (h.l.lt hi).2; omega), f2.obj h.bx (fun hi => by have := (h.l.lt hi).2; omega), ?_, f2.ext h.ext fun i hi => by have := (h.l.lt hi).2; omega⟩ f2 i2
  rw [List.map_append]
  exact k2
end
theorem of_end {T q : TypeId} {S : Store} {its : List Itm} {txs : List Chg} {v : V} {row : List V} {S1 : Store} (hn : Neat S) (h : OfS T q S its v row S1) (fare tot : Int) (o : Go.AL.Obj) :
    ∃ r1 S2, Fgt (S1.set S.length o) S2 ∧ Frz (S1.set S.length o) S2 (.agg [v, .sl 2 (txs.map chgR), .int .i64 fare, .int .i64 tot]) r1 ∧ S.length ≤ S2.length ∧ r1 = .agg (calR ⟨its, txs, fare, tot⟩) ∧ S2 = S := by
  have f := frm_set S1 S.length o
  have h1 := h.l.frm f fun i hi => by have := (h.l.lt hi).2; omega
  obtain ⟨X, hX⟩ := f.ext h.ext fun i hi => by omega
  refine ⟨_, S, by rw [hX]; exact hn.fgt _, frz_agg (show FrzAll _ _ _ (calR ⟨its, txs, fare, tot⟩) from ⟨h1.frz (by omega) (itmR_imm its), .imm ?_, .imm rfl, .imm rfl, trivial⟩), Nat.le_refl _, rfl, rfl⟩
  rfl
set_option maxHeartbeats 1000000 in
theorem from_A (c : Cal) (hl : c.its.length ≤ 1000000) (S : Store) : CallA Tryd.prog 9 [.agg (calR c)] S fun r S' => r = .agg (calR c) ∧ S' = S := by
  refine CallA.withNeat Tryd.func9 c10009 fun hn => ?_
  refine CallA.fin Tryd.func9 c10009 (Nat.le_of_ble_eq_true rfl) fun σ hσ => ?_
  simp (disch := first | omega | (simp only [lenT]; omega)) only [a10009, calR, evSt, ↓evPre, ↓evPreW, evPost, evPostW, evR, evU, seval]
  have h0 : OfS 45 75 S [] .nilSl [.nilSl, .sl 2 (c.txs.map chgR), .int .i64 c.fare, .int .i64 c.tot] (S ++ [⟨0, some (.arr 45 4 [[.nilSl, .nilSl, .int .i64 0, .int .i64 0]])⟩, ⟨0, some (.arr 45 4 [[.nilSl, .sl 2 (c.txs.map chgR), .int .i64 c.fare, .int .i64 c.tot]])⟩]) :=
    ⟨ob_app0.trans ob_head, by rw [ob_app, ob_cons, ob_head], .inl ⟨rfl, rfl⟩, ⟨_, rfl⟩⟩
  refine loopF (ι := Nat × V × Store) (fun i => [(1, .cptr (calR c)), (2, .ptr S.length 0 0 0), (3, .ptr (S.length + 1) 0 0 0), (4, .int .i64 i.1)]) (fun i => i.2.2)
    (fun i => i.1 ≤ c.its.length ∧ OfS 45 75 S (c.its.take i.1) i.2.1 [i.2.1, .sl 2 (c.txs.map chgR), .int .i64 c.fare, .int .i64 c.tot] i.2.2) (fun i => c.its.length - i.1)
    (fun i hi => by rw [hσ]; have := hi.2.len; omega) (0, .nilSl, _) ⟨Nat.zero_le _, h0⟩ (.inl ⟨?_, rfl⟩) ?_
  · simp only [calR, ↓evPre, ↓evPreW, evPost, evPostW, evR, evU, seval]
    try rfl
  clear h0
  rintro ⟨k, v, S1⟩ ⟨hk, hP⟩
  simp only at hk hP ⊢
  have b0 := hP.b0
  have bx := hP.bx
  cases hcx : c.its[k]? with
  | some x =>
    have hlt' := (List.getElem?_eq_some_iff.1 hcx).1
    have hlt : ((k : Int) < c.its.length) := by omega
    have hk1 : (k : Int) + 1 = ((k + 1 : Nat) : Int) := by omega
    simp (disch := first | omega | (simp only [lenT]; omega)) only [dT hlt, hcx, bx, itmR, calR, evSt, ↓evPre, ↓evPreW, evPost, evPostW, evR, evU, seval]
    refine hP.app (x := x) (by simp; omega) fun v' S2 hP2 f2 i2 => ?_
    have bx2 := hP2.bx
    have ck := hP2.l.cells
    simp (disch := first | omega | (simp only [lenT]; omega)) only [bx2, ck, wrap_i64, hk1, evSt, ↓evPre, ↓evPreW, evPost, evPostW, evR, evU, seval]
    refine ⟨(k + 1, v', _), ⟨by simp only; omega, ?_⟩, by simp only; omega, .inl ⟨by simp only [calR, ↓evPre, ↓evPreW, evPost, evPostW, evR, evU, seval]; try rfl, rfl⟩⟩
    simp only
    rw [take_at hcx]
    exact hP2.box [v', .sl 2 (c.txs.map chgR), .int .i64 c.fare, .int .i64 c.tot]
  | none =>
    have hge : c.its.length ≤ k := List.getElem?_eq_none_iff.1 hcx
    have hlt : ¬ ((k : Int) < c.its.length) := by omega
    rw [List.take_of_length_le hge] at hP
    have ok := hP.l.cellOk
    have hob := obj_set (rows' := [[v, .sl 2 (c.txs.map chgR), .int .i64 c.fare, .int .i64 c.tot]]) (ver' := 0) b0
    simp (disch := first | omega | (simp only [lenT]; omega)) only [dF hlt, b0, bx, ok, hob, calR, evSt, ↓evPre, ↓evPreW, evPost, evPostW, evR, evU, seval]
    exact of_end hn hP c.fare c.tot _
theorem drop_eq_at {α : Type} {a b : List α} {k : Nat} (h : a.length = b.length) : (∀ i, i < k → a[i]? = b[i]?) → a.length ≤ k → a = b := by
  intro h1 h2
  apply List.ext_getElem?
  intro i
  by_cases hi : i < k
  · exact h1 i hi
  · rw [List.getElem?_eq_none_iff.2 (by omega), List.getElem?_eq_none_iff.2 (by omega)]
theorem rsame1_A (a b : List Txt) (ha : a.length ≤ 1000000000) (S : Store) : CallA Tryd.prog 22 [.sl 1 (a.map txR), .sl 1 (b.map txR)] S fun r S' => r = .bool (decide (a = b)) ∧ S' = S := by
  refine CallA.keep Tryd.func22 c10022 (Nat.le_of_ble_eq_true rfl) fun σ hσ => ?_
  by_cases h1 : (a.length : Int) = b.length
  case neg =>
    rw [dF (show ¬ a = b by intro e; rw [e] at h1; exact h1 rfl)]
    simp (disch := first | omega | (simp only [lenT]; omega)) only [a10022, dF h1, evSt, ↓evPre, ↓evPreW, evPost, evPostW, evR, evU, seval]
  have h1' : a.length = b.length := by omega
  simp (disch := first | omega | (simp only [lenT]; omega)) only [a10022, h1, evSt, ↓evPre, ↓evPreW, evPost, evPostW, evR, evU, seval]
  refine loopA (ι := Nat) (fun k => [(0, .sl 1 (a.map txR)), (1, .sl 1 (b.map txR)), (5, .int .i64 (k : Nat))]) (fun _ => S) (fun k => k ≤ a.length ∧ ∀ i, i < k → a[i]? = b[i]?) (fun k => a.length - k) 0 ⟨Nat.zero_le _, fun i hi => by omega⟩ ?_ rfl ?_
  · simp only [↓evPre, ↓evPreW, evPost, evPostW, evR, evU, seval]
    try rfl
  rintro k ⟨hk, hq⟩
  cases hcx : a[k]? with
  | none =>
    have hge : a.length ≤ k := List.getElem?_eq_none_iff.1 hcx
    have hlt : ¬ ((k : Int) < a.length) := by omega
    rw [dT (drop_eq_at h1' hq hge)]
    simp (disch := first | omega | (simp only [lenT]; omega)) only [dF hlt, evSt, ↓evPre, ↓evPreW, evPost, evPostW, evR, evU, seval]
  | some x =>
    have hlt' := (List.getElem?_eq_some_iff.1 hcx).1
    have hlt : ((k : Int) < a.length) := by omega
    have hk1 : (k : Int) + 1 = ((k + 1 : Nat) : Int) := by omega
    obtain ⟨y, hy⟩ : ∃ y, b[k]? = some y := ⟨_, List.getElem?_eq_getElem (by omega)⟩
    by_cases hxy : x = y
    · simp (disch := first | omega | (simp only [lenT]; omega)) only [dT hlt, hcx, hy, hxy, txR, wrap_i64, hk1, evSt, ↓evPre, ↓evPreW, evPost, evPostW, evR, evU, seval]
      refine ⟨k + 1, ⟨by omega, fun i hi => ?_⟩, by omega, by first | rfl | exact ⟨rfl, rfl⟩ | exact ⟨rfl, rfl, rfl⟩⟩
      by_cases hik : i = k
      · rw [hik, hcx, hy, hxy]
      · exact hq i (by omega)
    · rw [dF (show ¬ a = b by intro e; rw [e, hy] at hcx; exact hxy (Option.some.inj hcx).symm)]
      simp (disch := first | omega | (simp only [lenT]; omega)) only [dT hlt, hcx, hy, dF hxy, txR, wrap_i64, hk1, evSt, ↓evPre, ↓evPreW, evPost, evPostW, evR, evU, seval]
set_option maxHeartbeats 1000000 in
theorem same_A (c : Cal) (hl : c.its.length ≤ 1000000 ∧ c.txs.length ≤ 1000000) (hcl : ∀ x ∈ c.its, x.cs.length ≤ 1000000000 ∧ x.ks.length ≤ 1000000000) (S : Store) : CallA Tryd.prog 8 [.agg (calR c), .agg (calR c)] S fun r S' => r = .bool true ∧ S' = S := by
  refine CallA.withNeat Tryd.func8 c10008 fun hn => ?_
  refine CallA.fin Tryd.func8 c10008 (Nat.le_of_ble_eq_true rfl) fun σ hσ => ?_
  simp (disch := first | omega | (simp only [lenT]; omega)) only [a10008, calR, evSt, ↓evPre, ↓evPreW, evPost, evPostW, evR, evU, seval]
  refine loopF (ι := Nat) (fun k => [(2, .cptr (calR c)), (3, .cptr (calR c)), (5, .int .i64 k)]) (fun _ => S) (fun k => k ≤ c.its.length) (fun k => c.its.length - k) (fun i hi => by rw [hσ]; exact Nat.le_refl _) 0 (Nat.zero_le _) (.inl ⟨?_, rfl⟩) ?_
  · simp only [calR, ↓evPre, ↓evPreW, evPost, evPostW, evR, evU, seval]
    try rfl
  rintro k hk
  cases hcx : c.its[k]? with
  | some x =>
    have hlt' := (List.getElem?_eq_some_iff.1 hcx).1
    have hlt : ((k : Int) < c.its.length) := by omega
    have hk1 : (k : Int) + 1 = ((k + 1 : Nat) : Int) := by omega
    have hx := hcl x (List.mem_of_getElem? hcx)
    have s1 := fun S => rsame1_A x.cs x.cs hx.1 S
    have s2 := fun S => rsame1_A x.ks x.ks hx.2 S
    simp only [eq_self, decide_true] at s1 s2
    simp (disch := first | omega | (simp only [lenT]; omega)) only [dT hlt, hcx, itmR, calR, evSt, ↓evPre, ↓evPreW, evPost, evPostW, evR, evU, seval]
    refine ⟨?_, ?_⟩
    all_goals
      refine (s1 _).then ?_
      simp (disch := first | omega | (simp only [lenT]; omega)) only [evSt, ↓evPre, ↓evPreW, evPost, evPostW, evR, evU, seval]
      refine (s2 _).then ?_
      simp (disch := first | omega | (simp only [lenT]; omega)) only [wrap_i64, hk1, evSt, ↓evPre, ↓evPreW, evPost, evPostW, evR, evU, seval]
      exact ⟨k + 1, by omega, by omega, back_under (hn.fgt _) (by simp only [calR, ↓evPre, ↓evPreW, evPost, evPostW, evR, evU, seval]; try rfl) (by simp [V.under, V.allUnder])⟩
  | none =>
    have hge : c.its.length ≤ k := List.getElem?_eq_none_iff.1 hcx
    have hlt : ¬ ((k : Int) < c.its.length) := by omega
    clear hcx hge hk
    simp (disch := first | omega | (simp only [lenT]; omega)) only [dF hlt, calR, evSt, ↓evPre, ↓evPreW, evPost, evPostW, evR, evU, seval]
    refine loopF (ι := Nat) (fun k => [(2, .cptr (calR c)), (3, .cptr (calR c)), (8, .int .i64 k)]) (fun _ => S) (fun k => k ≤ c.txs.length) (fun k => c.txs.length - k) (fun i hi => by rw [hσ]; exact Nat.le_refl _) 0 (Nat.zero_le _) (.inl ⟨?_, rfl⟩) ?_
    · simp only [calR, ↓evPre, ↓evPreW, evPost, evPostW, evR, evU, seval]
      try rfl
    clear hlt k
    rintro k hk
    cases hcx : c.txs[k]? with
    | some x =>
      have hlt' := (List.getElem?_eq_some_iff.1 hcx).1
      have hlt : ((k : Int) < c.txs.length) := by omega
      have hk1 : (k : Int) + 1 = ((k + 1 : Nat) : Int) := by omega
      simp (disch := first | omega | (simp only [lenT]; omega)) only [dT hlt, hcx, chgR, calR, wrap_i64, hk1, evSt, ↓evPre, ↓evPreW, evPost, evPostW, evR, evU, seval]
      exact ⟨k + 1, by omega, by omega, .inl ⟨by simp only [calR, ↓evPre, ↓evPreW, evPost, evPostW, evR, evU, seval]; try rfl, rfl⟩⟩
    | none =>
      have hge : c.txs.length ≤ k := List.getElem?_eq_none_iff.1 hcx
      have hlt : ¬ ((k : Int) < c.txs.length) := by omega
      simp (disch := first | omega | (simp only [lenT]; omega)) only [dF hlt, calR, evSt, ↓evPre, ↓evPreW, evPost, evPostW, evR, evU, seval]
      exact ⟨_, S, hn.self, .imm rfl, Nat.le_refl _, rfl, rfl⟩
end Go.Proofs.YtkdbghhdklfoiaaDoor
