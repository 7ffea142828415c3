/- Messages between two carriers: a message is delivered. -/
import Derived.Test.YtlnpfnoemhjheaaGreatDoorMLk1
import Derived.Test.YtlnpfnoemhjheaaGreatDoorMLk3
import Derived.Test.YtlnpfnoemhjheaaGreatDoorMRn9
import Derived.Test.YtlnpfnoemhjheaaGreatDoorMTp5
namespace Go.Proofs.YtlnpfnoemhjheaaGreatDoor
open Go Go.AL
set_option linter.unusedSectionVars false
variable [Go.AL.Mode] [Go.AL.LooseM]
set_option linter.unusedSimpArgs false
set_option linter.unusedVariables false
namespace Lk
theorem itoa_chars (n : Int) : ∀ c ∈ Lib.itoa n, 45 ≤ c.toNat ∧ c.toNat ≤ 57 := by
  have hd : ∀ u : Nat, ∀ c ∈ Lib.decDigits u, 45 ≤ c.toNat ∧ c.toNat ≤ 57 := fun u c hc => by
    obtain ⟨d1, _⟩ := dec_spec (u + 1) u (by omega)
    have := dig_iff.1 (List.all_eq_true.1 d1 c hc)
    omega
  intro c hc
  unfold Lib.itoa at hc
  split at hc
  · rcases List.mem_cons.1 hc with rfl | hc
    · exact ⟨by decide, by decide⟩
    · exact hd _ c hc
  · exact hd _ c hc
theorem itoa_even (n : Int) : (Lib.itoa n).any Ed.oddC = false := by
  rw [List.any_eq_false]
  intro c hc
  have := itoa_chars n c hc
  unfold Ed.oddC
  simp only [Bool.or_eq_true, decide_eq_true_eq]
  omega
theorem right_of (x : St) : Ed.rightL [lnOf x] = true := by
  have h := fun n => itoa_even n
  simp only [Ed.rightL, List.any_cons, List.any_nil, Ed.writable, lnOf, Ed.elBad, h, List.isEmpty_cons, Bool.or_false, Bool.not_false, Bool.and_true]
  decide
def bodyOf (x : St) : List UInt8 := Ed.outL [lnOf x]
theorem body_len (x : St) (h : okX x) : (bodyOf x).length ≤ 65536 := by
  have h1 := Ed.outL_len [lnOf x]
  have h2 := szL_of [x] (fun y hy => by rw [List.mem_singleton.1 hy]; exact h)
  simp only [List.map_cons, List.map_nil, List.length_singleton] at h2
  unfold bodyOf
  omega
theorem enc1_A (x : St) (h : okX x) (S : Store) : CallA Tryz.prog 6 [.sl 4 [stR x]] S fun r S' => r = .tup [.str (bodyOf x), .int .i64 0] ∧ S' = S := by
  have := encode_A [x] (by simp) (fun y hy => by rw [List.mem_singleton.1 hy]; exact h) S
  simp only [stSl, List.map_cons, List.map_nil] at this
  refine this.mono fun r S' k => ⟨?_, k.2⟩
  rw [k.1, Ed.printV, if_pos (right_of x)]
  rfl
theorem dec1_A (x : St) (h : okX x) (S : Store) : CallA Tryz.prog 8 [.str (bodyOf x)] S fun r S' => r = .tup [.sl 4 [stR x], .int .i64 0] ∧ S' = S := by
  have := decode_A (bodyOf x) S
  have e : decF (bodyOf x) = ([x], 0) := decF_back [x] (fun y hy => by rw [List.mem_singleton.1 hy]; exact h) (by simp) (right_of x)
  rw [e] at this
  exact this
structure Wd (S : Store) (n a : Nat) (ks bs : List (List V)) (Mm Mo : Mi) (S' : Store) : Prop where
  ext : ∃ T, S' = S ++ T
  len : S.length + 10 ≤ S'.length
  ends : ∃ kv bv, Snd S' S.length n a kv ∧ Rcv S' (S.length + 1) bv ∧ Lst (S.length + 10) S' 43 4 ks kv ∧ Lst (S.length + 10) S' 9 1 bs bv ∧ ∀ i, idOf kv i → ¬ idOf bv i
  mm : MAt (S.length + 2) Mm S'
  mo : MAt (S.length + 6) Mo S'
section
variable {S : Store} {n a : Nat} {ks bs : List (List V)} {Mm Mo : Mi} {S' S'' : Store}
theorem Wd.frm {D : Nat → Prop} (h : Wd S n a ks bs Mm Mo S') (hf : Frm D S' S'') (hd : ∀ i, D i → S'.length ≤ i) : Wd S n a ks bs Mm Mo S'' := by
  obtain ⟨kv, bv, h1, h2, h3, h4, h5⟩ := h.ends
  have hl := h.len
  refine ⟨hf.ext h.ext fun i hi => by have := hd i hi; omega, by have := hf.1; omega, ⟨kv, bv, hf.obj h1 fun k => by have := hd _ k; omega, hf.obj h2 fun k => by have := hd _ k; omega, h3.frm hf fun i hi k => ?_, h4.frm hf fun i hi k => ?_, h5⟩, h.mm.frm hf fun i _ _ k => by have := hd i k; omega, h.mo.frm hf fun i _ _ k => by have := hd i k; omega⟩
  · have := h3.lt hi; have := hd i k; omega
  · have := h4.lt hi; have := hd i k; omega
theorem Wd.add (h : Wd S n a ks bs Mm Mo S') (X : Store) : Wd S n a ks bs Mm Mo (S' ++ X) := h.frm (Frm.add (fun _ => False) S' X) fun i k => k.elim
theorem Wd.send_A (h : Wd S n a ks bs Mm Mo S') (hn : n ≤ 1000000) (hks : ks.length < 40) (b : List UInt8) (hb : b.length ≤ 65536) :
    CallA Tryz.prog 16 [.ptr S.length 0 0 0, .str b] S' fun r S'' => r = .tup [.agg (msgR 1 ((n : Int) + 1) 0 b), .int .i64 0] ∧ Wd S (n + 1) a (ks ++ [msgR 1 ((n : Int) + 1) 0 b]) bs Mm Mo S'' := by
  obtain ⟨kv, bv, h1, h2, h3, h4, h5⟩ := h.ends
  refine (Lk.send_A (lo := S.length + 10) (by omega) h.len h1 h3 hn hks b hb).mono ?_
  rintro r S'' ⟨rfl, kv', g1, g2, g3, g4⟩
  have hD : ∀ i, i = S.length ∨ idOf kv i → S.length ≤ i ∧ (i = S.length ∨ S.length + 10 ≤ i) := fun i hi => by
    rcases hi with hi | hi
    · omega
    · have := h3.lt hi; omega
  have hl := h.len
  refine ⟨rfl, g3.ext h.ext fun i hi => (hD i hi).1, by have := g3.1; omega, ⟨kv', bv, g1, g3.obj h2 fun k => by have := (hD _ k).2; omega, g2, h4.frm g3 fun i hi k => ?_, fun i hi hj => ?_⟩, h.mm.frm g3 fun i k1 k2 k => by have := (hD i k).2; omega, h.mo.frm g3 fun i k1 k2 k => by have := (hD i k).2; omega⟩
  · have := h4.lt hi
    rcases k with k | k
    · omega
    · exact h5 i k hi
  · have := h4.lt hj
    rcases g4 i hi with k | k
    · exact h5 i k hj
    · omega
theorem Wd.receive_A (h : Wd S n a ks bs Mm Mo S') (hbs : bs.length ≤ 100000) (s : Int) (hs : 1 ≤ s) (b : List UInt8) :
    CallA Tryz.prog 38 [.ptr (S.length + 1) 0 0 0, .agg (msgR 1 s 0 b)] S' fun r S'' => r = .tup [.agg (msgR 2 0 ((rcvL bs s b).length : Nat) []), .int .i64 (rcvF bs.length s)] ∧ Wd S n a ks (rcvL bs s b) Mm Mo S'' := by
  obtain ⟨kv, bv, h1, h2, h3, h4, h5⟩ := h.ends
  refine (Lk.receive_A (lo := S.length + 10) (by omega) h.len h2 h4 hbs s hs b).mono ?_
  rintro r S'' ⟨rfl, bv', g1, g2, g3, g4⟩
  have hD : ∀ i, i = S.length + 1 ∨ idOf bv i → S.length ≤ i ∧ (i = S.length + 1 ∨ S.length + 10 ≤ i) := fun i hi => by
    rcases hi with hi | hi
    · omega
    · have := h4.lt hi; omega
  have hl := h.len
  refine ⟨rfl, g3.ext h.ext fun i hi => (hD i hi).1, by have := g3.1; omega, ⟨kv, bv', g3.obj h1 fun k => by have := (hD _ k).2; omega, g1, h3.frm g3 fun i hi k => ?_, g2, fun i hi hj => ?_⟩, h.mm.frm g3 fun i k1 k2 k => by have := (hD i k).2; omega, h.mo.frm g3 fun i k1 k2 k => by have := (hD i k).2; omega⟩
  · have := h3.lt hi
    rcases k with k | k
    · omega
    · exact h5 i hi k
  · have := h3.lt hi
    rcases g4 i hj with k | k
    · exact h5 i hi k
    · omega
theorem Wd.acked_A (h : Wd S n a ks bs Mm Mo S') (hn : n ≤ 1000) (hks : ks.length + a = n) (k : Nat) (k1 : a ≤ k) (k2 : k ≤ n) :
    CallA Tryz.prog 39 [.ptr S.length 0 0 0, .agg (msgR 2 0 (k : Nat) [])] S' fun r S'' => r = .int .i64 0 ∧ Wd S n k (ks.drop (k - a)) bs Mm Mo S'' := by
  obtain ⟨kv, bv, h1, h2, h3, h4, h5⟩ := h.ends
  refine (Lk.acked_A (lo := S.length + 10) (by omega) h.len h1 h3 hn hks k k1 k2).mono ?_
  rintro r S'' ⟨rfl, kv', g1, g2, g3, g4⟩
  have hl := h.len
  refine ⟨rfl, g3.ext h.ext fun i hi => by omega, by have := g3.1; omega, ⟨kv', bv, g1, g3.obj h2 fun k => by omega, g2, h4.frm g3 fun i hi k => ?_, fun i hi hj => ?_⟩, h.mm.frm g3 fun i k1 k2 k => by omega, h.mo.frm g3 fun i k1 k2 k => by omega⟩
  · have := h4.lt hi; omega
  · have := h4.lt hj; have := g4 i hi; omega
theorem Wd.again_A (h : Wd S n a ks bs Mm Mo S') (hl : ks.length ≤ 1000) (hr : ∀ r ∈ ks, r.length = 4 ∧ V.allImm r = true) : CallA Tryz.prog 18 [.ptr S.length 0 0 0] S' fun r S'' => r = .sl 4 ks ∧ S'' = S' := by
  obtain ⟨kv, bv, h1, h2, h3, h4, h5⟩ := h.ends
  exact Lk.again_A h.len h1 h3 hl hr
theorem Wd.kept_A (h : Wd S n a ks bs Mm Mo S') (hl : ks.length ≤ 1000) (hr : ∀ r ∈ ks, r.length = 4 ∧ V.allImm r = true) : CallA Tryz.prog 20 [.ptr S.length 0 0 0] S' fun r S'' => r = .int .i64 (ks.length : Nat) ∧ S'' = S' := by
  obtain ⟨kv, bv, h1, h2, h3, h4, h5⟩ := h.ends
  exact Lk.kept_A h.len h1 h3 hl hr
theorem Wd.win {S'' : Store} {b : Nat} (h : Wd S n a ks bs Mm Mo S') (hf : Frm (fun i => b ≤ i ∧ i < b + 4) S' S'') (hb : b = S.length + 2 ∨ b = S.length + 6) {Mm' Mo' : Mi} (hm : MAt (S.length + 2) Mm' S'') (ho : MAt (S.length + 6) Mo' S'') : Wd S n a ks bs Mm' Mo' S'' := by
  obtain ⟨kv, bv, h1, h2, h3, h4, h5⟩ := h.ends
  have hl := h.len
  refine ⟨hf.ext h.ext fun i hi => by omega, by have := hf.1; omega, ⟨kv, bv, hf.obj h1 fun k => by omega, hf.obj h2 fun k => by omega, h3.frm hf fun i hi k => ?_, h4.frm hf fun i hi k => ?_, h5⟩, hm, ho⟩
  · have := h3.lt hi; omega
  · have := h4.lt hi; omega
theorem Wd.putM_A (h : Wd S n a ks bs Mm Mo S') (hN : Mm.N ≤ 1000000) (x : St) : CallA Tryz.prog 15 [.ptr (S.length + 2 + 3) 0 0 0, stV x] S' fun r S'' => r = .int .i64 (putF Mm x).1 ∧ Wd S n a ks bs (putF Mm x).2 Mo S'' ∧ Frm (fun i => S.length + 2 ≤ i ∧ i < S.length + 2 + 4) S' S'' := by
  refine (Lk.putM_A h.mm hN x).mono ?_
  rintro r S'' ⟨rfl, g1, g2⟩
  exact ⟨rfl, h.win g2 (.inl rfl) g1 (h.mo.frm g2 fun i k1 k2 k => by omega), g2⟩
theorem Wd.putO_A (h : Wd S n a ks bs Mm Mo S') (hN : Mo.N ≤ 1000000) (x : St) : CallA Tryz.prog 15 [.ptr (S.length + 6 + 3) 0 0 0, stV x] S' fun r S'' => r = .int .i64 (putF Mo x).1 ∧ Wd S n a ks bs Mm (putF Mo x).2 S'' ∧ Frm (fun i => S.length + 6 ≤ i ∧ i < S.length + 6 + 4) S' S'' := by
  refine (Lk.putM_A h.mo hN x).mono ?_
  rintro r S'' ⟨rfl, g1, g2⟩
  exact ⟨rfl, h.win g2 (.inr rfl) (h.mm.frm g2 fun i k1 k2 k => by omega) g1, g2⟩
def delA (silent : Bool) (a k : Nat) : Nat := if silent = true then a else k
theorem Wd.deliver_A (h : Wd S n a ks bs Mm Mo S') (hn : n ≤ 1000) (hks : ks.length + a = n) (ha : a ≤ bs.length) (hb : bs.length ≤ n) (hN : Mm.N ≤ 1000) (s : Int) (hs : 1 ≤ s) (hsn : s ≤ n) (x : St) (hx : okX x) (silent : Bool) :
    CallA Tryz.prog 17 [.ptr S.length 0 0 0, .ptr (S.length + 1) 0 0 0, .ptr (S.length + 2 + 3) 0 0 0, .agg (msgR 1 s 0 (bodyOf x)), .bool silent] S' fun r S'' =>
      Wd S n (delA silent a (rcvL bs s (bodyOf x)).length) (ks.drop (delA silent a (rcvL bs s (bodyOf x)).length - a)) (rcvL bs s (bodyOf x)) (if rcvF bs.length s = 0 then (putF Mm x).2 else Mm) Mo S'' := by
  refine CallA.keep Tryz.func17 c9017 (Nat.le_of_ble_eq_true rfl) fun σ hσ => ?_
  have hrc := h.receive_A (by omega) s hs (bodyOf x)
  have hbl : a ≤ (rcvL bs s (bodyOf x)).length ∧ (rcvL bs s (bodyOf x)).length ≤ n := by
    by_cases h1 : s ≤ ((bs.length : Nat) : Int)
    · have e1 : rcvF bs.length s = 30 := by unfold rcvF; rw [if_pos h1]
      have e2 : rcvL bs s (bodyOf x) = bs := by unfold rcvL; rw [e1]; rfl
      rw [e2]
      omega
    · by_cases h2 : ((bs.length : Nat) : Int) + 1 < s
      · have e1 : rcvF bs.length s = 29 := by unfold rcvF; rw [if_neg h1, if_pos h2]
        have e2 : rcvL bs s (bodyOf x) = bs := by unfold rcvL; rw [e1]; rfl
        rw [e2]
        omega
      · have e1 : rcvF bs.length s = 0 := by unfold rcvF; rw [if_neg h1, if_neg h2]
        have e2 : rcvL bs s (bodyOf x) = bs ++ [[.str (bodyOf x)]] := by unfold rcvL; rw [e1]; rfl
        rw [e2, List.length_append, List.length_singleton]
        omega
  generalize rcvL bs s (bodyOf x) = bs' at hrc hbl ⊢
  generalize rcvF bs.length s = e at hrc ⊢
  simp only [a9017, msgR] at hrc ⊢
  refine stageA (fun E S1 => (E.get 0 = .ptr S.length 0 0 0 ∧ E.get 1 = .ptr (S.length + 1) 0 0 0 ∧ E.get 2 = .ptr (S.length + 2 + 3) 0 0 0 ∧ E.get 4 = .bool silent ∧ E.get 8 = .cptr [.int .i64 1, .int .i64 s, .int .i64 0, .str (bodyOf x)]) ∧ S1 = S') ?_ ?_
  · intro K hK
    simp (disch := first | omega | (simp only [lenT]; omega)) only [evSt, ↓evPre, ↓evPreW, evPost, evPostW, evR, evU, seval]
    exact hK _ _ ⟨⟨rfl, rfl, rfl, rfl, rfl⟩, rfl⟩
  rintro E S1 ⟨⟨e0, e1, e2, e4, e8⟩, rfl⟩
  refine stageA (fun E S1 => (E.get 0 = .ptr S.length 0 0 0 ∧ E.get 2 = .ptr (S.length + 2 + 3) 0 0 0 ∧ E.get 4 = .bool silent ∧ E.get 8 = .cptr [.int .i64 1, .int .i64 s, .int .i64 0, .str (bodyOf x)] ∧ E.get 11 = .int .i64 e) ∧
      ∃ c, S.length + 10 ≤ c ∧ E.get 10 = .ptr c 0 0 0 ∧ S1.obj? c 0 = some (43, 4, [[.int .i64 2, .int .i64 0, .int .i64 (bs'.length : Nat), .str []]]) ∧ Wd S n a ks bs' Mm Mo S1) ?_ ?_
  · intro K hK
    simp (disch := first | omega | (simp only [lenT]; omega)) only [e0, e1, e2, e4, e8, evSt, ↓evPre, ↓evPreW, evPost, evPostW, evR, evU, seval]
    refine hrc.mono ?_
    rintro r S2 ⟨rfl, w2⟩
    simp (disch := first | omega | (simp only [lenT]; omega)) only [evSt, ↓evPre, ↓evPreW, evPost, evPostW, evR, evU, seval]
    have := w2.len
    exact hK _ _ ⟨⟨e0, e2, e4, e8, rfl⟩, S2.length, this, rfl, ob_app0.trans ob_head, w2.add _⟩
  clear e0 e1 e2 e4 e8 hrc
  rintro E S1 ⟨⟨e0, e2, e4, e8, e11⟩, c, hc, e10, oc, w1⟩
  refine stageA (fun E S1 => (E.get 0 = .ptr S.length 0 0 0 ∧ E.get 4 = .bool silent ∧ E.get 10 = .ptr c 0 0 0) ∧
      S1.obj? c 0 = some (43, 4, [[.int .i64 2, .int .i64 0, .int .i64 (bs'.length : Nat), .str []]]) ∧ Wd S n a ks bs' (if e = 0 then (putF Mm x).2 else Mm) Mo S1) ?_ ?_
  · intro K hK
    by_cases h0 : e = 0
    case neg =>
      rw [if_neg h0] at hK
      simp (disch := first | omega | (simp only [lenT]; omega)) only [e0, e2, e4, e8, e10, e11, dF h0, evSt, ↓evPre, ↓evPreW, evPost, evPostW, evR, evU, seval]
      exact hK _ _ ⟨⟨e0, e4, e10⟩, oc, w1⟩
    rw [if_pos h0] at hK
    simp (disch := first | omega | (simp only [lenT]; omega)) only [e0, e2, e4, e8, e10, e11, dT h0, evSt, ↓evPre, ↓evPreW, evPost, evPostW, evR, evU, seval]
    refine (dec1_A x hx _).then ?_
    simp (disch := first | omega | (simp only [lenT]; omega)) only [e0, e2, e4, e8, e10, e11, evSt, ↓evPre, ↓evPreW, evPost, evPostW, evR, evU, seval]
    refine loopA (ι := Nat × Store) (fun i => [(0, .ptr S.length 0 0 0), (2, .ptr (S.length + 2 + 3) 0 0 0), (4, .bool silent), (10, .ptr c 0 0 0), (12, .sl 4 [stR x]), (14, .int .i64 (i.1 : Nat))]) (fun i => i.2)
      (fun i => (i.1 = 0 ∧ i.2 = S1) ∨ (i.1 = 1 ∧ i.2.obj? c 0 = some (43, 4, [[.int .i64 2, .int .i64 0, .int .i64 (bs'.length : Nat), .str []]]) ∧ Wd S n a ks bs' (putF Mm x).2 Mo i.2)) (fun i => 1 - i.1) (0, S1) (.inl ⟨rfl, rfl⟩) ?_ rfl ?_
    · simp only [e0, e2, e4, e10, ↓evPre, ↓evPreW, evPost, evPostW, evR, evU, seval]
      try rfl
    rintro ⟨k, S2⟩ (⟨hk, hS2⟩ | ⟨hk, o2, w2⟩)
    · simp only at hk hS2
      subst hk hS2
      have hp := w1.putM_A (by omega) x
      simp only [stV, stR] at hp
      simp (disch := first | omega | (simp only [lenT]; omega)) only [stR, evSt, ↓evPre, ↓evPreW, evPost, evPostW, evR, evU, seval]
      refine hp.mono ?_
      rintro r S3 ⟨rfl, w3, f3⟩
      simp (disch := first | omega | (simp only [lenT]; omega)) only [wrap_i64, evSt, ↓evPre, ↓evPreW, evPost, evPostW, evR, evU, seval]
      refine ⟨(1, S3), .inr ⟨rfl, f3.obj oc fun k => by omega, w3⟩, by simp, ?_⟩
      first | exact ⟨rfl, rfl⟩ | exact ⟨⟨rfl, rfl⟩, rfl⟩ | (simp only [stR, ↓evPre, ↓evPreW, evPost, evPostW, evR, evU, seval]; try exact ⟨rfl, rfl⟩)
    · simp only at hk o2 w2
      subst hk
      simp (disch := first | omega | (simp only [lenT]; omega)) only [evSt, ↓evPre, ↓evPreW, evPost, evPostW, evR, evU, seval]
      exact hK _ _ ⟨⟨rfl, rfl, rfl⟩, o2, w2⟩
  clear e0 e2 e4 e8 e10 e11 oc w1
  rintro E S1 ⟨⟨e0, e4, e10⟩, oc, w1⟩
  unfold delA
  cases silent
  · have hak := w1.acked_A hn hks bs'.length hbl.1 hbl.2
    simp only [msgR] at hak
    simp (disch := first | omega | (simp only [lenT]; omega)) only [e0, e4, e10, oc, Bool.not_false, Bool.false_eq_true, if_false, evSt, ↓evPre, ↓evPreW, evPost, evPostW, evR, evU, seval]
    refine hak.mono ?_
    rintro r S2 ⟨rfl, w2⟩
    simp (disch := first | omega | (simp only [lenT]; omega)) only [evSt, ↓evPre, ↓evPreW, evPost, evPostW, evR, evU, seval]
    exact w2
  · simp (disch := first | omega | (simp only [lenT]; omega)) only [e0, e4, e10, oc, Bool.not_true, if_true, Nat.sub_self, List.drop_zero, evSt, ↓evPre, ↓evPreW, evPost, evPostW, evR, evU, seval]
    exact w1
end
end Lk
end Go.Proofs.YtlnpfnoemhjheaaGreatDoor
/- Messages between two carriers: what is sent, received and acknowledged. -/
namespace Go.Proofs.YtlnpfnoemhjheaaGreatDoor
open Go Go.AL
set_option linter.unusedSectionVars false
variable [Go.AL.Mode] [Go.AL.LooseM]
set_option linter.unusedSimpArgs false
set_option linter.unusedVariables false
namespace Lk
def MF (l : List St) : Mi := l.foldl (fun M x => (putF M x).2) Mi0
theorem MF_snoc (l : List St) (x : St) : MF (l ++ [x]) = (putF (MF l) x).2 := by unfold MF; rw [List.foldl_append]; rfl
theorem MF_N : ∀ (l : List St), (MF l).N ≤ l.length := fun l => by
  generalize hn : l.length = n
  induction n generalizing l with
  | zero => rw [List.length_eq_zero_iff.1 hn]; exact Nat.le_refl _
  | succ n ih =>
    have hne : l ≠ [] := fun h => by rw [h] at hn; cases hn
    obtain ⟨l', x, rfl⟩ : ∃ l' x, l = l' ++ [x] := ⟨l.dropLast, l.getLast hne, (List.dropLast_concat_getLast hne).symm⟩
    have h1 := ih l' (by simpa using hn)
    have h2 := putF_N (MF l') x
    rw [MF_snoc]
    omega
def bR (x : St) : List V := [.str (bodyOf x)]
def msgsF (k : Nat) : List St → List (List V)
  | [] => []
  | x :: l => msgR 1 ((k : Int) + 1) 0 (bodyOf x) :: msgsF (k + 1) l
theorem msgsF_len : ∀ (l : List St) (k : Nat), (msgsF k l).length = l.length
  | [], _ => rfl
  | x :: l, k => by rw [msgsF, List.length_cons, List.length_cons, msgsF_len l]
theorem msgsF_get : ∀ (l : List St) (k i : Nat), (msgsF k l)[i]? = (l[i]?).map fun x => msgR 1 (((k + i : Nat) : Int) + 1) 0 (bodyOf x)
  | [], _, _ => by simp [msgsF]
  | x :: l, k, 0 => by simp [msgsF]
  | x :: l, k, i + 1 => by
    rw [msgsF, List.getElem?_cons_succ, List.getElem?_cons_succ, msgsF_get l (k + 1) i, show k + 1 + i = k + (i + 1) by omega]
theorem msgsF_snoc : ∀ (l : List St) (k : Nat) (x : St), msgsF k (l ++ [x]) = msgsF k l ++ [msgR 1 (((k + l.length : Nat) : Int) + 1) 0 (bodyOf x)]
  | [], k, x => by simp [msgsF]
  | y :: l, k, x => by
    rw [List.cons_append, msgsF, msgsF, msgsF_snoc l (k + 1) x, List.cons_append, List.length_cons, show k + 1 + l.length = k + (l.length + 1) by omega]
theorem msgsF_row {l : List St} {k : Nat} : ∀ r ∈ msgsF k l, r.length = 4 ∧ V.allImm r = true := fun r hr => by
  obtain ⟨i, hi⟩ := List.getElem?_of_mem hr
  rw [msgsF_get] at hi
  cases hx : l[i]? with
  | none => rw [hx] at hi; cases hi
  | some x =>
    rw [hx] at hi
    cases hi
    exact ⟨rfl, rfl⟩
structure Iv (S : Store) (L : List St) (r a : Nat) (S' : Store) : Prop where
  wd : Wd S L.length a ((msgsF 0 L).drop a) ((L.take r).map bR) (MF (L.take r)) (MF L) S'
  ar : a ≤ r
  rl : r ≤ L.length
  ok : ∀ x ∈ L, okX x
  sm : L.length ≤ 20
def stepR (j r : Nat) : Nat := if j = r then r + 1 else r
section
variable {S : Store} {L : List St} {r a : Nat} {S' : Store}
theorem Iv.deliver_A (h : Iv S L r a S') {j : Nat} {x : St} (hx : L[j]? = some x) (silent : Bool) :
    CallA Tryz.prog 17 [.ptr S.length 0 0 0, .ptr (S.length + 1) 0 0 0, .ptr (S.length + 2 + 3) 0 0 0, .agg (msgR 1 ((j : Int) + 1) 0 (bodyOf x)), .bool silent] S' fun _ S'' => Iv S L (stepR j r) (delA silent a (stepR j r)) S'' := by
  have hj := (List.getElem?_eq_some_iff.1 hx).1
  have hr := h.rl
  have ha := h.ar
  have hs := h.sm
  have hbl : ((L.take r).map bR).length = r := by rw [List.length_map, List.length_take]; omega
  have hN := MF_N (L.take r)
  rw [List.length_take] at hN
  have hd := h.wd.deliver_A (by omega) (by rw [List.length_drop, msgsF_len]; omega) (by omega) (by omega) (by omega) ((j : Int) + 1) (by omega) (by omega) x (h.ok x (List.mem_of_getElem? hx)) silent
  rw [hbl] at hd
  have e1 : rcvF r ((j : Int) + 1) = if j = r then 0 else if j < r then 30 else 29 := by
    unfold rcvF
    by_cases c1 : j < r
    · rw [if_pos (by omega), if_neg (by omega), if_pos c1]
    · by_cases c2 : j = r
      · rw [if_neg (by omega), if_neg (by omega), if_pos c2]
      · rw [if_neg (by omega), if_pos (by omega), if_neg c2, if_neg c1]
  have e2 : rcvL ((L.take r).map bR) ((j : Int) + 1) (bodyOf x) = (L.take (stepR j r)).map bR := by
    unfold rcvL
    rw [hbl, e1]
    unfold stepR
    by_cases c2 : j = r
    · subst c2
      rw [if_pos rfl, if_pos rfl, if_pos rfl, List.take_add_one, hx]
      simp [bR]
    · rw [if_neg c2, if_neg c2]
      by_cases c1 : j < r
      · rw [if_pos c1, if_neg (by decide)]
      · rw [if_neg c1, if_neg (by decide)]
  have e3 : (if rcvF r ((j : Int) + 1) = 0 then (putF (MF (L.take r)) x).2 else MF (L.take r)) = MF (L.take (stepR j r)) := by
    rw [e1]
    unfold stepR
    by_cases c2 : j = r
    · subst c2
      rw [if_pos rfl, if_pos rfl, if_pos rfl, List.take_add_one, hx, Option.toList_some, MF_snoc]
    · rw [if_neg c2, if_neg c2]
      by_cases c1 : j < r
      · rw [if_pos c1, if_neg (by decide)]
      · rw [if_neg c1, if_neg (by decide)]
  have hst : r ≤ stepR j r ∧ stepR j r ≤ L.length := by unfold stepR; split <;> omega
  have e4 : ((L.take (stepR j r)).map bR).length = stepR j r := by rw [List.length_map, List.length_take]; omega
  rw [e3, e2, e4] at hd
  have hde : a ≤ delA silent a (stepR j r) ∧ delA silent a (stepR j r) ≤ stepR j r := by unfold delA; split <;> omega
  refine hd.mono fun r' S'' w => ⟨?_, hde.2, hst.2, h.ok, h.sm⟩
  rw [List.drop_drop, show a + (delA silent a (stepR j r) - a) = delA silent a (stepR j r) by omega] at w
  exact w
theorem Iv.add (h : Iv S L r a S') (X : Store) : Iv S L r a (S' ++ X) := ⟨h.wd.add X, h.ar, h.rl, h.ok, h.sm⟩
theorem Iv.send_A {x : St} (h : Wd S L.length a ((msgsF 0 L).drop a) ((L.take r).map bR) (MF (L.take r)) (MF (L ++ [x])) S') (ha : a ≤ r) (hr : r ≤ L.length) (ok : ∀ y ∈ L, okX y) (hx : okX x) (sm : L.length < 20) :
    CallA Tryz.prog 16 [.ptr S.length 0 0 0, .str (bodyOf x)] S' fun v S'' => v = .tup [.agg (msgR 1 ((L.length : Int) + 1) 0 (bodyOf x)), .int .i64 0] ∧ Iv S (L ++ [x]) r a S'' := by
  have hml := msgsF_len L 0
  refine (h.send_A (by omega) (by rw [List.length_drop, hml]; omega) (bodyOf x) (body_len x hx)).mono ?_
  rintro v S'' ⟨rfl, w⟩
  refine ⟨rfl, ⟨?_, ha, by rw [List.length_append]; omega, fun y hy => ?_, by rw [List.length_append, List.length_singleton]; omega⟩⟩
  · rw [msgsF_snoc, List.length_append, List.length_singleton, List.drop_append_of_le_length (by omega), Nat.zero_add, List.take_append_of_le_length hr]
    exact w
  · rcases List.mem_append.1 hy with hy | hy
    · exact ok y hy
    · rw [List.mem_singleton.1 hy]; exact hx
end
end Lk
end Go.Proofs.YtlnpfnoemhjheaaGreatDoor
/- Messages between two carriers: the law. -/
namespace Go.Proofs.YtlnpfnoemhjheaaGreatDoor
open Go Go.AL
set_option linter.unusedSectionVars false
variable [Go.AL.Mode] [Go.AL.LooseM]
set_option linter.unusedSimpArgs false
set_option linter.unusedVariables false
namespace Lk
def bI (b : Bool) : List V := [.bool b]
def Pt (S : Store) (l : List St) (lo : List Bool) (E : Env) : Prop := E.get 0 = .sl 4 (l.map stR) ∧ E.get 1 = .sl 1 (lo.map bI) ∧ E.get 5 = .ptr S.length 0 0 0 ∧ E.get 7 = .ptr (S.length + 1) 0 0 0 ∧ E.get 8 = .ptr (S.length + 2 + 3) 0 0 0 ∧ E.get 9 = .ptr (S.length + 6 + 3) 0 0 0
theorem start_wd (S S1 S2 S3 S4 T3 T4 : Store) (h1 : S1 = S ++ [⟨0, some (.arr 79 4 [[.int .i64 40, .int .i64 0, .int .i64 0, .nilSl]])⟩]) (h2 : S2 = S1 ++ [⟨0, some (.arr 81 2 [[.nilSl, .bool true]])⟩])
    (m3 : MAt S2.length Mi0 S3) (l3 : T3.length = 4) (h3 : S3 = S2 ++ T3) (m4 : MAt S3.length Mi0 S4) (l4 : T4.length = 4) (h4 : S4 = S3 ++ T4) : Iv S [] 0 0 S4 := by
  have e2 : S2.length = S.length + 2 := by rw [h2, h1]; simp
  have e3 : S3.length = S.length + 6 := by rw [h3, List.length_append, e2, l3]
  rw [e2] at m3
  rw [e3] at m4
  refine ⟨⟨⟨[⟨0, some (.arr 79 4 [[.int .i64 40, .int .i64 0, .int .i64 0, .nilSl]])⟩] ++ [⟨0, some (.arr 81 2 [[.nilSl, .bool true]])⟩] ++ T3 ++ T4, by rw [h4, h3, h2, h1]; simp⟩, by rw [h4, List.length_append, e3, l4]; omega, ⟨.nilSl, .nilSl, ?_, ?_, .inl ⟨rfl, rfl⟩, .inl ⟨rfl, rfl⟩, fun i ⟨_, _, _, e⟩ => by cases e⟩, ?_, m4⟩, Nat.le_refl _, Nat.le_refl _, fun x hx => by (cases hx), by simp⟩
  · unfold Snd
    rw [h4, h3, h2, h1]
    exact obj_add (obj_add (obj_add (ob_app0.trans ob_head)))
  · unfold Rcv
    rw [h4, h3, h2, show S.length + 1 = S1.length by rw [h1]; simp]
    exact obj_add (obj_add (ob_app0.trans ob_head))
  · rw [h4]
    exact m3.frm (Frm.add (fun _ => False) S3 T4) fun _ _ _ h => h
set_option maxHeartbeats 4000000 in
theorem law_msgs (l : List St) (lo : List Bool) (hl : ∀ x ∈ l, okX x) (S : Store) : CallA Tryz.prog 4 [.sl 4 (l.map stR), .sl 1 (lo.map bI)] S fun r S' => r = .bool true ∧ S' = S := by
  refine CallA.withNeat Tryz.func4 c9004 fun hn => ?_
  refine CallA.fin Tryz.func4 c9004 (Nat.le_of_ble_eq_true rfl) fun σ hσ => ?_
  have aw := awake_A
  simp only [a9004]
  refine stageA (fun E S' => (E.get 0 = .sl 4 (l.map stR) ∧ E.get 1 = .sl 1 (lo.map bI)) ∧ S' = S) ?_ ?_
  · intro K hK
    simp (disch := first | omega | (simp only [lenT]; omega)) only [evSt, ↓evPre, ↓evPreW, evPost, evPostW, evR, evU, seval]
    exact hK _ _ ⟨⟨rfl, rfl⟩, rfl⟩
  rintro E S2 ⟨⟨e0, e1⟩, hS2⟩
  rw [hS2]
  clear hS2 S2
  refine stageA (fun E S' => (E.get 0 = .sl 4 (l.map stR) ∧ E.get 1 = .sl 1 (lo.map bI)) ∧ (l.length ≤ 20 ∧ lo.length ≤ 60) ∧ S' = S) ?_ ?_
  · intro K hK
    by_cases h0 : (20 : Int) < (l.length : Nat)
    · simp (disch := first | omega | (simp only [lenT]; omega)) only [e0, dT h0, evSt, ↓evPre, ↓evPreW, evPost, evPostW, evR, evU, seval]
      refine (aw _).then ?_
      simp (disch := first | omega | (simp only [lenT]; omega)) only [evSt, ↓evPre, ↓evPreW, evPost, evPostW, evR, evU, seval]
      exact ⟨_, S, hn.self, .imm rfl, Nat.le_refl _, rfl, rfl⟩
    by_cases h1 : (60 : Int) < (lo.length : Nat)
    · simp (disch := first | omega | (simp only [lenT]; omega)) only [e0, e1, dF h0, dT h1, evSt, ↓evPre, ↓evPreW, evPost, evPostW, evR, evU, seval]
      refine (aw _).then ?_
      simp (disch := first | omega | (simp only [lenT]; omega)) only [evSt, ↓evPre, ↓evPreW, evPost, evPostW, evR, evU, seval]
      exact ⟨_, S, hn.self, .imm rfl, Nat.le_refl _, rfl, rfl⟩
    simp (disch := first | omega | (simp only [lenT]; omega)) only [e0, e1, dF h0, dF h1, evSt, ↓evPre, ↓evPreW, evPost, evPostW, evR, evU, seval]
    exact hK _ _ ⟨⟨e0, e1⟩, ⟨by omega, by omega⟩, rfl⟩
  clear e0 e1
  rintro E S2 ⟨⟨e0, e1⟩, ⟨hl20, hl60⟩, hS2⟩
  rw [hS2]
  clear hS2 S2
  obtain ⟨S1, hS1⟩ : ∃ S1 : Store, S1 = S ++ [⟨0, some (.arr 79 4 [[.int .i64 40, .int .i64 0, .int .i64 0, .nilSl]])⟩] := ⟨_, rfl⟩
  refine stageA (fun E S' => (E.get 0 = .sl 4 (l.map stR) ∧ E.get 1 = .sl 1 (lo.map bI) ∧ E.get 5 = .ptr S.length 0 0 0 ∧ E.get 6 = .int .i64 0) ∧ S' = S1) ?_ ?_
  · intro K hK
    simp (disch := first | omega | (simp only [lenT]; omega)) only [evSt, ↓evPre, ↓evPreW, evPost, evPostW, evR, evU, seval]
    refine (newS_A S).mono ?_
    rintro r S' ⟨rfl, rfl⟩
    simp (disch := first | omega | (simp only [lenT]; omega)) only [evSt, ↓evPre, ↓evPreW, evPost, evPostW, evR, evU, seval]
    exact hK _ _ ⟨⟨e0, e1, rfl, rfl⟩, hS1.symm⟩
  clear e0 e1
  rintro E S2 ⟨⟨e0, e1, e5, e6⟩, hS2⟩
  rw [hS2]
  clear hS2 S2
  refine stageA (fun E S' => Pt S l lo E ∧ E.get 6 = .int .i64 0 ∧ Iv S [] 0 0 S') ?_ ?_
  · intro K hK
    simp (disch := first | omega | (simp only [lenT]; omega)) only [evSt, ↓evPre, ↓evPreW, evPost, evPostW, evR, evU, seval]
    refine (newR_A S1).mono ?_
    rintro r S2 ⟨rfl, hS2⟩
    simp (disch := first | omega | (simp only [lenT]; omega)) only [evSt, ↓evPre, ↓evPreW, evPost, evPostW, evR, evU, seval]
    refine (newM_A S2).mono ?_
    rintro r S3 ⟨rfl, m3, T3, l3, h3⟩
    simp (disch := first | omega | (simp only [lenT]; omega)) only [evSt, ↓evPre, ↓evPreW, evPost, evPostW, evR, evU, seval]
    refine (newM_A S3).mono ?_
    rintro r S4 ⟨rfl, m4, T4, l4, h4⟩
    simp (disch := first | omega | (simp only [lenT]; omega)) only [evSt, ↓evPre, ↓evPreW, evPost, evPostW, evR, evU, seval]
    have q1 : S1.length = S.length + 1 := by rw [hS1]; simp
    have q2 : S2.length = S.length + 2 := by rw [hS2, List.length_append, q1]; rfl
    have q3 : S3.length = S.length + 6 := by rw [h3, List.length_append, q2, l3]
    refine hK _ _ ⟨⟨e0, e1, e5, ?_, ?_, ?_⟩, e6, start_wd S S1 S2 S3 S4 T3 T4 hS1 hS2 m3 l3 h3 m4 l4 h4⟩
    · rw [← q1]; rfl
    · rw [← q2]; rfl
    · rw [← q3]; rfl
  clear e0 e1 e5 e6 hS1 S1
  rintro E S1 ⟨⟨e0, e1, e5, e7, e8, e9⟩, e6, iv⟩
  refine stageA (fun E S' => Pt S l lo E ∧ S' = S1) ?_ ?_
  · intro K hK
    simp (disch := first | omega | (simp only [lenT]; omega)) only [e6, evSt, ↓evPre, ↓evPreW, evPost, evPostW, evR, evU, seval]
    exact hK _ _ ⟨⟨e0, e1, e5, e7, e8, e9⟩, rfl⟩
  clear e0 e1 e5 e6 e7 e8 e9
  rintro E S2 ⟨⟨e0, e1, e5, e7, e8, e9⟩, hS2⟩
  rw [hS2]
  clear hS2 S2
  refine stageA (fun E S' => Pt S l lo E ∧ ∃ L r a, Iv S L r a S') ?_ ?_
  · intro K hK
    simp (disch := first | omega | (simp only [lenT]; omega)) only [evSt, ↓evPre, ↓evPreW, evPost, evPostW, evR, evU, seval]
    refine loopA (ι := Nat × List St × Nat × Nat × Store) (fun i => [(0, .sl 4 (l.map stR)), (1, .sl 1 (lo.map bI)), (5, .ptr S.length 0 0 0), (7, .ptr (S.length + 1) 0 0 0), (8, .ptr (S.length + 2 + 3) 0 0 0), (9, .ptr (S.length + 6 + 3) 0 0 0), (10, .int .i64 (i.1 : Nat))]) (fun i => i.2.2.2.2)
      (fun i => i.1 ≤ l.length ∧ i.2.1.length ≤ i.1 ∧ Iv S i.2.1 i.2.2.1 i.2.2.2.1 i.2.2.2.2) (fun i => l.length - i.1) (0, [], 0, 0, S1) ⟨Nat.zero_le _, Nat.le_refl _, iv⟩ ?_ rfl ?_
    · simp only [e0, e1, e5, e7, e8, e9, ↓evPre, ↓evPreW, evPost, evPostW, evR, evU, seval]
      try rfl
    clear iv
    rintro ⟨k, L, r, a, S2⟩ ⟨hk, hL, iv⟩
    simp only at hk hL iv ⊢
    cases hc : l[k]? with
    | none =>
      have hge := List.getElem?_eq_none_iff.1 hc
      have hlt : ¬ ((k : Int) < l.length) := by omega
      simp (disch := first | omega | (simp only [lenT]; omega)) only [dF hlt, evSt, ↓evPre, ↓evPreW, evPost, evPostW, evR, evU, seval]
      exact hK _ _ ⟨⟨rfl, rfl, rfl, rfl, rfl, rfl⟩, L, r, a, iv⟩
    | some x =>
      have hlt' := (List.getElem?_eq_some_iff.1 hc).1
      have hlt : (k : Int) < l.length := by omega
      have hk1 : (k : Int) + 1 = ((k + 1 : Nat) : Int) := by omega
      have hxm := List.mem_of_getElem? hc
      have hox := hl x hxm
      refine stageA (fun E S' => Pt S l lo E ∧ E.get 10 = .int .i64 (k : Nat) ∧ S' = S2) ?_ ?_
      · intro K hK
        simp (disch := first | omega | (simp only [lenT]; omega)) only [dT hlt, evSt, ↓evPre, ↓evPreW, evPost, evPostW, evR, evU, seval]
        exact hK _ _ ⟨⟨rfl, rfl, rfl, rfl, rfl, rfl⟩, rfl, rfl⟩
      rintro E S3 ⟨⟨e0, e1, e5, e7, e8, e9⟩, e10, hS3⟩
      rw [hS3]
      clear hS3 S3
      refine stageA (fun E S' => Pt S l lo E ∧ E.get 10 = .int .i64 (k : Nat) ∧ ∃ L' r' a', L'.length ≤ k + 1 ∧ Iv S L' r' a' S') ?_ ?_
      · intro K hK
        simp only [w_block]
        refine stageA (fun E S' => Pt S l lo E ∧ E.get 10 = .int .i64 (k : Nat) ∧ Wd S L.length a ((msgsF 0 L).drop a) ((L.take r).map bR) (MF (L.take r)) (MF (L ++ [x])) S') ?_ ?_
        · intro K2 hK2
          have hN := MF_N L
          have hp := iv.wd.putO_A (by have := iv.sm; omega) x
          simp only [stV, stR] at hp
          simp (disch := first | omega | (simp only [lenT]; omega)) only [e0, e9, e10, hc, stR, evSt, ↓evPre, ↓evPreW, evPost, evPostW, evR, evU, seval]
          refine hp.mono ?_
          rintro v S3 ⟨rfl, w3, _⟩
          rcases putF_cases (MF L) x with ⟨h1, h2⟩ | ⟨h1, _⟩
          · rw [h2] at w3
            simp (disch := first | omega | (simp only [lenT]; omega)) only [dF h1, Bool.not_false, evSt, ↓evPre, ↓evPreW, evPost, evPostW, evR, evU, seval]
            exact hK _ _ ⟨⟨e0, e1, e5, e7, e8, e9⟩, e10, L, r, a, by omega, ⟨w3, iv.ar, iv.rl, iv.ok, iv.sm⟩⟩
          · have h0 : (putF (MF L) x).1 = 0 := by rw [h1]
            rw [← MF_snoc] at w3
            simp (disch := first | omega | (simp only [lenT]; omega)) only [dT h0, Bool.not_true, evSt, ↓evPre, ↓evPreW, evPost, evPostW, evR, evU, seval]
            exact hK2 _ _ ⟨⟨e0, e1, e5, e7, e8, e9⟩, e10, w3⟩
        clear e0 e1 e5 e7 e8 e9 e10
        rintro E S3 ⟨⟨e0, e1, e5, e7, e8, e9⟩, e10, w3⟩
        refine stageA (fun E S' => Pt S l lo E ∧ (E.get 10 = .int .i64 (k : Nat) ∧ E.get 11 = .str (bodyOf x) ∧ E.get 12 = .int .i64 0) ∧ S' = S3) ?_ ?_
        · intro K2 hK2
          have hen := enc1_A x hox S3
          simp only [stR] at hen
          simp (disch := first | omega | (simp only [lenT]; omega)) only [e0, e10, hc, stR, evSt, ↓evPre, ↓evPreW, evPost, evPostW, evR, evU, seval]
          refine hen.then ?_
          simp (disch := first | omega | (simp only [lenT]; omega)) only [evSt, ↓evPre, ↓evPreW, evPost, evPostW, evR, evU, seval]
          exact hK2 _ _ ⟨⟨e0, e1, e5, e7, e8, e9⟩, ⟨e10, rfl, rfl⟩, rfl⟩
        clear e0 e1 e5 e7 e8 e9 e10
        rintro E S4 ⟨⟨e0, e1, e5, e7, e8, e9⟩, ⟨e10, e11, e12⟩, hS4⟩
        rw [hS4]
        clear hS4 S4
        refine stageA (fun E S' => Pt S l lo E ∧ (E.get 10 = .int .i64 (k : Nat) ∧ E.get 12 = .int .i64 0 ∧ E.get 14 = .int .i64 0) ∧ ∃ c, E.get 13 = .ptr c 0 0 0 ∧ S'.obj? c 0 = some (43, 4, [msgR 1 ((L.length : Int) + 1) 0 (bodyOf x)]) ∧ Iv S (L ++ [x]) r a S') ?_ ?_
        · intro K2 hK2
          have hsd := Iv.send_A w3 iv.ar iv.rl iv.ok hox (by omega)
          simp (disch := first | omega | (simp only [lenT]; omega)) only [e5, e11, evSt, ↓evPre, ↓evPreW, evPost, evPostW, evR, evU, seval]
          refine hsd.mono ?_
          rintro v S4 ⟨rfl, iv4⟩
          simp (disch := first | omega | (simp only [lenT]; omega)) only [msgR, evSt, ↓evPre, ↓evPreW, evPost, evPostW, evR, evU, seval]
          exact hK2 _ _ ⟨⟨e0, e1, e5, e7, e8, e9⟩, ⟨e10, e12, rfl⟩, S4.length, rfl, ob_app0.trans ob_head, iv4.add _⟩
        clear e0 e1 e5 e7 e8 e9 e10 e11 e12 w3 S3
        rintro E S3 ⟨⟨e0, e1, e5, e7, e8, e9⟩, ⟨e10, e12, e14⟩, c, e13, oc, iv3⟩
        refine stageA (fun E S' => Pt S l lo E ∧ (E.get 10 = .int .i64 (k : Nat) ∧ E.get 13 = .ptr c 0 0 0) ∧ S' = S3) ?_ ?_
        · intro K2 hK2
          simp (disch := first | omega | (simp only [lenT]; omega)) only [e12, e14, evSt, ↓evPre, ↓evPreW, evPost, evPostW, evR, evU, seval]
          exact hK2 _ _ ⟨⟨e0, e1, e5, e7, e8, e9⟩, ⟨e10, e13⟩, rfl⟩
        clear e0 e1 e5 e7 e8 e9 e10 e12 e13 e14
        rintro E S4 ⟨⟨e0, e1, e5, e7, e8, e9⟩, ⟨e10, e13⟩, hS4⟩
        rw [hS4]
        clear hS4 S4
        have hLl : (L ++ [x]).length ≤ k + 1 := by rw [List.length_append, List.length_singleton]; omega
        have hdel : ∀ b, CallA Tryz.prog 17 [.ptr S.length 0 0 0, .ptr (S.length + 1) 0 0 0, .ptr (S.length + 2 + 3) 0 0 0, .agg (msgR 1 ((L.length : Int) + 1) 0 (bodyOf x)), .bool b] S3 fun _ S'' => ∃ r' a', Iv S (L ++ [x]) r' a' S'' := fun b =>
          (iv3.deliver_A (show (L ++ [x])[L.length]? = some x by simp) b).mono fun _ S'' w => ⟨_, _, w⟩
        simp only [msgR] at hdel oc
        have h2k : IntKind.i64.wrap ((2 : Int) * (k : Nat)) = ((2 * k : Nat) : Int) := by rw [wrap_i64 (by omega) (by omega)]; omega
        by_cases c1 : ((lo.length : Nat) : Int) ≤ (k : Int)
        · have c2 : ¬ ((2 * k : Nat) : Int) < (lo.length : Nat) := by omega
          simp (disch := first | omega | (simp only [lenT]; omega)) only [e0, e1, e5, e7, e8, e10, e13, oc, dT c1, dF c2, h2k, evSt, ↓evPre, ↓evPreW, evPost, evPostW, evR, evU, seval]
          refine (hdel false).mono ?_
          rintro v S5 ⟨r', a', w5⟩
          simp (disch := first | omega | (simp only [lenT]; omega)) only [evSt, ↓evPre, ↓evPreW, evPost, evPostW, evR, evU, seval]
          exact hK _ _ ⟨⟨e0, e1, e5, e7, e8, e9⟩, e10, _, r', a', hLl, w5⟩
        have hkl : k < lo.length := by omega
        obtain ⟨b, hb⟩ : ∃ b, lo[k]? = some b := ⟨_, List.getElem?_eq_getElem hkl⟩
        cases b
        case true =>
          simp (disch := first | omega | (simp only [lenT]; omega)) only [e0, e1, e10, hb, dF c1, bI, Bool.not_true, evSt, ↓evPre, ↓evPreW, evPost, evPostW, evR, evU, seval]
          exact hK _ _ ⟨⟨e0, e1, e5, e7, e8, e9⟩, e10, _, r, a, hLl, iv3⟩
        by_cases c2 : ((2 * k : Nat) : Int) < (lo.length : Nat)
        · obtain ⟨b2, hb2⟩ : ∃ b, lo[2 * k]? = some b := ⟨_, List.getElem?_eq_getElem (by omega)⟩
          simp (disch := first | omega | (simp only [lenT]; omega)) only [e0, e1, e5, e7, e8, e10, e13, oc, hb, hb2, dF c1, dT c2, h2k, bI, Bool.not_false, evSt, ↓evPre, ↓evPreW, evPost, evPostW, evR, evU, seval]
          refine (hdel b2).mono ?_
          rintro v S5 ⟨r', a', w5⟩
          simp (disch := first | omega | (simp only [lenT]; omega)) only [evSt, ↓evPre, ↓evPreW, evPost, evPostW, evR, evU, seval]
          exact hK _ _ ⟨⟨e0, e1, e5, e7, e8, e9⟩, e10, _, r', a', hLl, w5⟩
        · simp (disch := first | omega | (simp only [lenT]; omega)) only [e0, e1, e5, e7, e8, e10, e13, oc, hb, dF c1, dF c2, h2k, bI, Bool.not_false, evSt, ↓evPre, ↓evPreW, evPost, evPostW, evR, evU, seval]
          refine (hdel false).mono ?_
          rintro v S5 ⟨r', a', w5⟩
          simp (disch := first | omega | (simp only [lenT]; omega)) only [evSt, ↓evPre, ↓evPreW, evPost, evPostW, evR, evU, seval]
          exact hK _ _ ⟨⟨e0, e1, e5, e7, e8, e9⟩, e10, _, r', a', hLl, w5⟩
      clear e0 e1 e5 e7 e8 e9 e10 iv
      rintro E S3 ⟨⟨e0, e1, e5, e7, e8, e9⟩, e10, L', r', a', hL', iv3⟩
      simp (disch := first | omega | (simp only [lenT]; omega)) only [e10, wrap_i64, hk1, evSt, ↓evPre, ↓evPreW, evPost, evPostW, evR, evU, seval]
      refine ⟨(k + 1, L', r', a', S3), ⟨by simp only; omega, hL', iv3⟩, by simp only; omega, ?_⟩
      simp only [e0, e1, e5, e7, e8, e9, ↓evPre, ↓evPreW, evPost, evPostW, evR, evU, seval]
  clear e0 e1 e5 e7 e8 e9 iv S1
  rintro E S1 ⟨⟨e0, e1, e5, e7, e8, e9⟩, L, r, a, iv⟩
  have hml := msgsF_len L 0
  have har := iv.ar
  have hrl := iv.rl
  have hsm := iv.sm
  obtain ⟨rows, hrows⟩ : ∃ rows, rows = (msgsF 0 L).drop a := ⟨_, rfl⟩
  have hrl2 : rows.length = L.length - a := by rw [hrows, List.length_drop, hml]
  have hrg : ∀ (k : Nat) (x : St), L[a + k]? = some x → rows[k]? = some [.int .i64 1, .int .i64 (((a + k : Nat) : Int) + 1), .int .i64 0, .str (bodyOf x)] := fun k x hx => by
    rw [hrows, List.getElem?_drop, msgsF_get, hx, Option.map_some, Nat.zero_add]
    rfl
  refine stageA (fun E S' => Pt S l lo E ∧ E.get 15 = .sl 4 rows ∧ S' = S1) ?_ ?_
  · intro K hK
    have hag := iv.wd.again_A (by rw [← hrows]; omega) fun q hq => msgsF_row q (List.mem_of_mem_drop hq)
    rw [← hrows] at hag
    simp (disch := first | omega | (simp only [lenT]; omega)) only [e5, evSt, ↓evPre, ↓evPreW, evPost, evPostW, evR, evU, seval]
    refine hag.then ?_
    simp (disch := first | omega | (simp only [lenT]; omega)) only [evSt, ↓evPre, ↓evPreW, evPost, evPostW, evR, evU, seval]
    exact hK _ _ ⟨⟨e0, e1, e5, e7, e8, e9⟩, rfl, rfl⟩
  clear e0 e1 e5 e7 e8 e9
  rintro E S2 ⟨⟨e0, e1, e5, e7, e8, e9⟩, e15, hS2⟩
  rw [hS2]
  clear hS2 S2
  refine stageA (fun E S' => Pt S l lo E ∧ Iv S L L.length L.length S') ?_ ?_
  · intro K hK
    simp (disch := first | omega | (simp only [lenT]; omega)) only [evSt, ↓evPre, ↓evPreW, evPost, evPostW, evR, evU, seval]
    refine loopA (ι := Nat × Nat × Nat × Store) (fun i => [(0, .sl 4 (l.map stR)), (1, .sl 1 (lo.map bI)), (5, .ptr S.length 0 0 0), (7, .ptr (S.length + 1) 0 0 0), (8, .ptr (S.length + 2 + 3) 0 0 0), (9, .ptr (S.length + 6 + 3) 0 0 0), (15, .sl 4 rows), (16, .int .i64 (i.1 : Nat))]) (fun i => i.2.2.2)
      (fun i => i.1 ≤ rows.length ∧ i.2.1 = max r (a + i.1) ∧ (i.1 = 0 → i.2.2.1 = a) ∧ (0 < i.1 → i.2.2.1 = i.2.1) ∧ Iv S L i.2.1 i.2.2.1 i.2.2.2) (fun i => rows.length - i.1) (0, r, a, S1) ⟨Nat.zero_le _, by simp only; omega, fun _ => rfl, fun h => by simp only at h; omega, iv⟩ ?_ rfl ?_
    · simp only [e0, e1, e5, e7, e8, e9, e15, ↓evPre, ↓evPreW, evPost, evPostW, evR, evU, seval]
      try rfl
    rintro ⟨k, r', a', S2⟩ ⟨hk, hr', ha0, ha1, iv2⟩
    simp only at hk hr' ha0 ha1 iv2 ⊢
    by_cases hlt' : k < rows.length
    case neg =>
      have hlt : ¬ ((k : Int) < (rows.length : Nat)) := by omega
      have hrn : r' = L.length := by omega
      have han : a' = L.length := by
        by_cases h0 : k = 0
        · rw [ha0 h0]; omega
        · rw [ha1 (by omega)]; exact hrn
      rw [hrn, han] at iv2
      simp (disch := first | omega | (simp only [lenT]; omega)) only [dF hlt, evSt, ↓evPre, ↓evPreW, evPost, evPostW, evR, evU, seval]
      exact hK _ _ ⟨⟨rfl, rfl, rfl, rfl, rfl, rfl⟩, iv2⟩
    have hlt : ((k : Int) < (rows.length : Nat)) := by omega
    have hk1 : (k : Int) + 1 = ((k + 1 : Nat) : Int) := by omega
    obtain ⟨x, hx⟩ : ∃ x, L[a + k]? = some x := ⟨_, List.getElem?_eq_getElem (by omega)⟩
    have hrow := hrg k x hx
    have hdv := iv2.deliver_A hx false
    simp only [msgR] at hdv
    simp (disch := first | omega | (simp only [lenT]; omega)) only [dT hlt, hrow, evSt, ↓evPre, ↓evPreW, evPost, evPostW, evR, evU, seval]
    refine hdv.mono ?_
    rintro v S3 iv3
    have hst : stepR (a + k) r' = max r (a + (k + 1)) := by unfold stepR; split <;> omega
    have hde : delA false a' (stepR (a + k) r') = stepR (a + k) r' := by unfold delA; rw [if_neg (by decide)]
    rw [hde] at iv3
    simp (disch := first | omega | (simp only [lenT]; omega)) only [wrap_i64, hk1, evSt, ↓evPre, ↓evPreW, evPost, evPostW, evR, evU, seval]
    refine ⟨(k + 1, stepR (a + k) r', stepR (a + k) r', S3), ⟨by simp only; omega, by simp only [hst], fun h => by simp only at h; omega, fun _ => rfl, iv3⟩, by simp only; omega, ?_⟩
    first | rfl | exact ⟨rfl, rfl⟩ | simp only [↓evPre, ↓evPreW, evPost, evPostW, evR, evU, seval]
  clear e0 e1 e5 e7 e8 e9 e15 iv hrows hrl2 hrg rows S1
  rintro E S1 ⟨⟨e0, e1, e5, e7, e8, e9⟩, iv⟩
  have hN := MF_N L
  have htk : L.take L.length = L := List.take_of_length_le (Nat.le_refl _)
  have w := iv.wd
  rw [htk, List.drop_of_length_le (by omega)] at w
  refine stageA (fun E S' => (E.get 5 = .ptr S.length 0 0 0 ∧ E.get 8 = .ptr (S.length + 2 + 3) 0 0 0 ∧ E.get 9 = .ptr (S.length + 6 + 3) 0 0 0) ∧ (∃ d, isAll (MF L) d ∧ E.get 17 = .sl 4 (d.map stR) ∧ E.get 18 = .sl 4 (d.map stR)) ∧ S' = S1) ?_ ?_
  · intro K hK
    simp (disch := first | omega | (simp only [lenT]; omega)) only [e8, e9, evSt, ↓evPre, ↓evPreW, evPost, evPostW, evR, evU, seval]
    refine (allM_A w.mo (by omega)).mono ?_
    rintro v S2 ⟨⟨d, hd, rfl⟩, rfl⟩
    simp (disch := first | omega | (simp only [lenT]; omega)) only [stSl, e8, e9, evSt, ↓evPre, ↓evPreW, evPost, evPostW, evR, evU, seval]
    refine (allM_A w.mm (by omega)).mono ?_
    rintro v S3 ⟨⟨d2, hd2, rfl⟩, rfl⟩
    have : d2 = d := isAll_eq hd2 hd fun w => rfl
    subst this
    simp (disch := first | omega | (simp only [lenT]; omega)) only [stSl, e8, e9, evSt, ↓evPre, ↓evPreW, evPost, evPostW, evR, evU, seval]
    exact hK _ _ ⟨⟨e5, e8, e9⟩, ⟨d2, hd, rfl, rfl⟩, rfl⟩
  clear e0 e1 e5 e7 e8 e9
  rintro E S2 ⟨⟨e5, e8, e9⟩, ⟨d, hd, e17, e18⟩, hS2⟩
  rw [hS2]
  clear hS2 S2
  have hdl := hd.2.length_eq
  have hdw := w.mo.wf.len
  rw [List.length_map] at hdl
  refine stageA (fun E S' => (E.get 8 = .ptr (S.length + 2 + 3) 0 0 0 ∧ E.get 9 = .ptr (S.length + 6 + 3) 0 0 0) ∧ S' = S1) ?_ ?_
  · intro K hK
    have hkp := w.kept_A (by simp) fun q hq => by cases hq
    have hdf := differ_self_A d S1 (by omega)
    simp only [stSl] at hdf
    have c0 : ((d.length : Nat) : Int) = (d.length : Nat) := rfl
    simp (disch := first | omega | (simp only [lenT]; omega)) only [e5, e17, e18, evSt, ↓evPre, ↓evPreW, evPost, evPostW, evR, evU, seval]
    refine hkp.then ?_
    simp (disch := first | omega | (simp only [lenT]; omega)) only [e5, e17, e18, dT c0, Bool.not_true, List.length_nil, evSt, ↓evPre, ↓evPreW, evPost, evPostW, evR, evU, seval]
    refine hdf.then ?_
    simp (disch := first | omega | (simp only [lenT]; omega)) only [evSt, ↓evPre, ↓evPreW, evPost, evPostW, evR, evU, seval]
    exact hK _ _ ⟨⟨e8, e9⟩, rfl⟩
  clear e5 e8 e9 e17 e18
  rintro E S2 ⟨⟨e8, e9⟩, hS2⟩
  rw [hS2]
  clear hS2 S2
  refine stageA (fun E S' => (E.get 19 = .int .i64 0 ∧ E.get 20 = .int .i64 0 ∧ E.get 21 = .int .i64 0) ∧ ∃ T, S' = S ++ T) ?_ ?_
  · intro K hK
    simp (disch := first | omega | (simp only [lenT]; omega)) only [e8, e9, evSt, ↓evPre, ↓evPreW, evPost, evPostW, evR, evU, seval]
    refine (repair_same_A (b1 := S.length + 6) (b2 := S.length + 2) w.mo w.mm (by omega) (by omega)).mono ?_
    rintro v S2 ⟨rfl, f2⟩
    simp (disch := first | omega | (simp only [lenT]; omega)) only [evSt, ↓evPre, ↓evPreW, evPost, evPostW, evR, evU, seval]
    exact hK _ _ ⟨⟨rfl, rfl, rfl⟩, f2.ext w.ext fun i hi => by omega⟩
  rintro E S2 ⟨⟨e19, e20, e21⟩, T, hT⟩
  rw [hT]
  simp (disch := first | omega | (simp only [lenT]; omega)) only [e19, e20, e21, evSt, ↓evPre, ↓evPreW, evPost, evPostW, evR, evU, seval]
  refine (aw _).then ?_
  simp (disch := first | omega | (simp only [lenT]; omega)) only [evSt, ↓evPre, ↓evPreW, evPost, evPostW, evR, evU, seval]
  exact ⟨_, S, hn.fgt T, .imm rfl, Nat.le_refl _, rfl, rfl⟩
end Lk
end Go.Proofs.YtlnpfnoemhjheaaGreatDoor
