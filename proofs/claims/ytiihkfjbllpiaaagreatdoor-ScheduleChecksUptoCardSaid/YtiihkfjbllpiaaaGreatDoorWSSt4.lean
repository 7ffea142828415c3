/- The stable sort: the merge. -/
import Derived.Test.YtiihkfjbllpiaaaGreatDoorWSSt1
namespace Go.Proofs.YtiihkfjbllpiaaaGreatDoor
open Go Go.AL
set_option linter.unusedSectionVars false
variable [Go.AL.Mode] [Go.AL.LooseM]
set_option linter.unusedSimpArgs false
set_option linter.unusedVariables false
set_option maxHeartbeats 8000000
def SymOk (f : FuncId) (first cap : List V) (ok : List V → Prop) (lt : List V → List V → Bool) (ord : List V → List V → Prop) (k : Nat) : Prop :=
  ∀ (P U W Q : List (List V)) (S : Store) (id ver a m b N : Nat),U.length + W.length ≤ k → id < S.length → W2 (P ++ U ++ W ++ Q) → (∀ r ∈ U,ok r) → (∀ r ∈ W,ok r) → P.length = a → a + U.length = m → m + W.length = b → (P ++ U ++ W ++ Q).length = N → N ≤ 1099511627776 →
    Srt lt U → Srt lt W → 0 < U.length → 0 < W.length → (∀ x ∈ U,∀ y ∈ W,ord x y) →
    CallA Tryz.prog 149 [.msl id ver 0 N,.int .i64 a,.int .i64 m,.int .i64 b,.func f first cap] (rset S id ver (P ++ U ++ W ++ Q)) fun r S'=>r = .tup [] ∧ ∃ M',M'.Perm (U ++ W) ∧ Srt lt M' ∧ S' = rset S id ver (P ++ M' ++ Q)
theorem sym_step {f : FuncId} {first cap : List V} {ok : List V → Prop} {lt : List V → List V → Bool} {ord : List V → List V → Prop} (hc : Cmps f first cap ok lt ord) (ho : Ords ok lt) {k : Nat} (ih : SymOk f first cap ok lt ord k)
    (P U W Q : List (List V)) (S : Store) (id ver a m b N : Nat) (hk : U.length + W.length ≤ k + 1) (hid : id < S.length) (hw : W2 (P ++ U ++ W ++ Q)) (hUo : ∀ r ∈ U,ok r) (hWo : ∀ r ∈ W,ok r) (ha : P.length = a) (hm : a + U.length = m) (hb : m + W.length = b)
    (hN : (P ++ U ++ W ++ Q).length = N) (hl : N ≤ 1099511627776) (hUs : Srt lt U) (hWs : Srt lt W) (hU0 : 1 < U.length) (hW0 : 1 < W.length) (hor : ∀ x ∈ U,∀ y ∈ W,ord x y) :
    CallA Tryz.prog 149 [.msl id ver 0 N,.int .i64 a,.int .i64 m,.int .i64 b,.func f first cap] (rset S id ver (P ++ U ++ W ++ Q)) fun r S'=>r = .tup [] ∧ ∃ M',M'.Perm (U ++ W) ∧ Srt lt M' ∧ S' = rset S id ver (P ++ M' ++ Q):=by
  refine CallA.keep Tryz.func149 c649 (Nat.le_of_ble_eq_true rfl) fun σ hσ=>?_
  have hN' : a + U.length + W.length + Q.length = N:=by rw[← hN];simp;omega
  have e0 : ¬ ((m : Int) - a = 1):=by omega
  have e1 : ¬ ((b : Int) - m = 1):=by omega
  have hobj : ∀ rows,(rset S id ver rows).obj? id ver = some (45,8,rows):=fun rows=>rset_obj hid
  obtain ⟨mid,hmid⟩ : ∃ mid,mid = (a + b) / 2:=⟨_,rfl⟩
  have em : ((a : Int) + b) / 2 = (mid : Nat):=by omega
  obtain ⟨nn,hnn⟩ : ∃ nn,nn = mid + m:=⟨_,rfl⟩
  have en : (mid : Int) + m = (nn : Nat):=by omega
  have fin : ∀ (R0 s : Nat) (A1 A2 B1 B2 L R : List (List V)),U = A1 ++ A2 → W = B1 ++ B2 → (∀ x ∈ A1,∀ y ∈ B2,lt y x = false) → (∀ x ∈ B1,∀ y ∈ A2,lt y x = false) → L.Perm (A1 ++ B1) → Srt lt L → R.Perm (A2 ++ B2) → Srt lt R →
      ∃ M',M'.Perm (U ++ W) ∧ Srt lt M' ∧ rset S id ver (P ++ L ++ R ++ Q) = rset S id ver (P ++ M' ++ Q):=by
    rintro R0 s A1 A2 B1 B2 L R rfl rfl h1 h2 h3 h4 h5 h6
    obtain ⟨g1,g2⟩:=srt_join ho hUs hWs h1 h2 h3 h4 h5 h6
    exact ⟨L ++ R,g1,g2,by simp⟩
  have hcase : ∃ S0 R0 : Nat,a ≤ S0 ∧ S0 ≤ R0 ∧ R0 ≤ m ∧ R0 ≤ mid ∧ nn ≤ b + S0 ∧ (S0 = a ∨ nn = b + S0) ∧ (R0 = m ∨ R0 = mid) ∧ ((mid < m ∧ (nn : Int) - b = (S0 : Nat) ∧ R0 = mid) ∨ (¬ mid < m ∧ S0 = a ∧ R0 = m)):=by
    by_cases h : mid < m
    · exact ⟨nn - b,mid,by omega,by omega,by omega,by omega,by omega,by omega,by omega,.inl ⟨h,by omega,rfl⟩⟩
    · exact ⟨a,m,by omega,by omega,by omega,by omega,by omega,by omega,by omega,.inr ⟨h,rfl,rfl⟩⟩
  obtain ⟨S0,R0,c1,c2,c3,c4,c5,c6,c7,hcase⟩:=hcase
  have ep : (nn : Int) - 1 = (nn - 1 : Nat):=by omega
  have cross : ∀ (s : Nat) (A1 A2 B1 B2 : List (List V)),U = A1 ++ A2 → W = B1 ++ B2 → A1.length = s - a → B1.length = mid - s → S0 ≤ s → s ≤ R0 →
      (∀ c x y,S0 ≤ c → c < s → U[c - a]? = some x → W[nn - 1 - c - m]? = some y → lt y x = false) → (∀ c x y,s ≤ c → c < R0 → U[c - a]? = some x → W[nn - 1 - c - m]? = some y → lt y x = true) →
      (∀ x ∈ A1,∀ y ∈ B2,lt y x = false) ∧ (∀ x ∈ B1,∀ y ∈ A2,lt y x = false):=by
    intro s A1 A2 B1 B2 hU hW hA hB hs1 hs2 k1 k2
    have hUl : A1.length + A2.length = U.length:=by rw[hU];simp
    have hWl : B1.length + B2.length = W.length:=by rw[hW];simp
    refine ⟨fun x hx y hy=>?_,fun x hx y hy=>?_⟩
    · obtain ⟨p,hp⟩:=List.getElem?_of_mem hx
      obtain ⟨q,hq⟩:=List.getElem?_of_mem hy
      have hpl:=(List.getElem?_eq_some_iff.1 hp).1
      have hql:=(List.getElem?_eq_some_iff.1 hq).1
      have hp' : U[p]? = some x:=by rw[hU,List.getElem?_append_left hpl];exact hp
      have hq' : W[B1.length + q]? = some y:=by rw[hW,List.getElem?_append_right (by omega)];simpa using hq
      obtain ⟨x0,hx0⟩ : ∃ x0,U[s - 1 - a]? = some x0:=⟨_,List.getElem?_eq_getElem (by omega)⟩
      obtain ⟨y0,hy0⟩ : ∃ y0,W[nn - 1 - (s - 1) - m]? = some y0:=⟨_,List.getElem?_eq_getElem (by omega)⟩
      have h0:=k1 (s - 1) x0 y0 (by omega) (by omega) hx0 hy0
      have ox:=hUo x (List.mem_of_getElem? hp')
      have ox0:=hUo x0 (List.mem_of_getElem? hx0)
      have oy:=hWo y (List.mem_of_getElem? hq')
      have oy0:=hWo y0 (List.mem_of_getElem? hy0)
      have g1:=srt_get' ho hUs hUo (by omega) hp' hx0
      have g2:=srt_get' ho hWs hWo (by omega) hy0 hq'
      exact ho.trans x y0 y ox oy0 oy (ho.trans x x0 y0 ox ox0 oy0 g1 h0) g2
    · obtain ⟨p,hp⟩:=List.getElem?_of_mem hx
      obtain ⟨q,hq⟩:=List.getElem?_of_mem hy
      have hpl:=(List.getElem?_eq_some_iff.1 hp).1
      have hql:=(List.getElem?_eq_some_iff.1 hq).1
      have hp' : W[p]? = some x:=by rw[hW,List.getElem?_append_left hpl];exact hp
      have hq' : U[A1.length + q]? = some y:=by rw[hU,List.getElem?_append_right (by omega)];simpa using hq
      obtain ⟨x0,hx0⟩ : ∃ x0,U[s - a]? = some x0:=⟨_,List.getElem?_eq_getElem (by omega)⟩
      obtain ⟨y0,hy0⟩ : ∃ y0,W[nn - 1 - s - m]? = some y0:=⟨_,List.getElem?_eq_getElem (by omega)⟩
      have h0:=k2 s x0 y0 (by omega) (by omega) hx0 hy0
      have ox:=hWo x (List.mem_of_getElem? hp')
      have ox0:=hUo x0 (List.mem_of_getElem? hx0)
      have oy:=hUo y (List.mem_of_getElem? hq')
      have oy0:=hWo y0 (List.mem_of_getElem? hy0)
      have g1:=srt_get' ho hWs hWo (by omega) hp' hy0
      have g2:=srt_get' ho hUs hUo (by omega) hx0 hq'
      exact ho.trans x x0 y ox ox0 oy (ho.trans x y0 x0 ox oy0 ox0 g1 (ho.asymm y0 x0 oy0 ox0 h0)) g2
  have cell : ∀ y ∈ U ++ W,y.length = 8 ∧ y.take 8 = y:=fun y hy=>by
    have:=(hw y (by simp only[List.mem_append] at hy ⊢;rcases hy with hy | hy<;>simp [hy])).1
    exact ⟨this,List.take_of_length_le (by omega)⟩
  rcases hcase with ⟨hmm,es,er⟩ | ⟨hmm,es,er⟩
  all_goals first
    | (have hmm' : (mid : Int) < m:=by omega
       simp (disch:=omega) only[a649,e0,e1,em,en,hmm',es,ep,wrap_i64,wrap_u64,↓evPre,↓evPreV,evPost,evPostV,evR,evU,seval])
    | (have hmm' : ¬ ((mid : Int) < m):=by omega
       simp (disch:=omega) only[a649,e0,e1,em,en,hmm',ep,wrap_i64,wrap_u64,↓evPre,↓evPreV,evPost,evPostV,evR,evU,seval])
  all_goals
    refine loopA (ι:=Nat × Nat) (fun i=>[(0,.msl id ver 0 N),(1,.int .i64 a),(2,.int .i64 m),(3,.int .i64 b),(4,.func f first cap),(18,.int .i64 mid),(19,.int .i64 nn),(20,.int .i64 i.1),(21,.int .i64 i.2),(22,.int .i64 (nn - 1 : Nat))]) (fun _=>rset S id ver (P ++ U ++ W ++ Q))
      (fun i=>S0 ≤ i.1 ∧ i.1 ≤ i.2 ∧ i.2 ≤ R0 ∧ (∀ c x y,S0 ≤ c → c < i.1 → U[c - a]? = some x → W[nn - 1 - c - m]? = some y → lt y x = false) ∧ (∀ c x y,i.2 ≤ c → c < R0 → U[c - a]? = some x → W[nn - 1 - c - m]? = some y → lt y x = true))
      (fun i=>i.2 - i.1) (S0,R0) ⟨Nat.le_refl _,c2,Nat.le_refl _,fun c x y h h'=>by simp only at h';omega,fun c x y h h'=>by simp only at h;omega⟩ ?_ rfl ?_
    · simp only[↓evPre,↓evPreV,evPost,evPostV,evR,evU,seval]
      try omega
    · rintro ⟨i,j⟩ ⟨h1,h2,h3,h4,h5⟩
      simp only at h1 h2 h3 h4 h5 ⊢
      by_cases hij : i < j
      · have g : (i : Int) < j:=by omega
        obtain ⟨c,hcc⟩ : ∃ c,c = (i + j) / 2:=⟨_,rfl⟩
        have ec : ((i : Int) + j) / 2 = (c : Nat):=by omega
        obtain ⟨x,hx⟩ : ∃ x,U[c - a]? = some x:=⟨_,List.getElem?_eq_getElem (by omega)⟩
        obtain ⟨y,hy⟩ : ∃ y,W[nn - 1 - c - m]? = some y:=⟨_,List.getElem?_eq_getElem (by omega)⟩
        have hxm:=List.mem_of_getElem? hx
        have hym:=List.mem_of_getElem? hy
        obtain ⟨x1,tx⟩:=cell x (List.mem_append_left _ hxm)
        obtain ⟨y1,ty⟩:=cell y (List.mem_append_right _ hym)
        have epc : ((nn - 1 : Nat) : Int) - c = (nn - 1 - c : Nat):=by omega
        have gx : (P ++ U ++ W ++ Q)[c]? = some x:=by
          rw[List.append_assoc,List.getElem?_append_left (by simp;omega),List.getElem?_append_right (by omega),ha];exact hx
        have gy : (P ++ U ++ W ++ Q)[nn - 1 - c]? = some y:=by
          rw[List.getElem?_append_left (by simp;omega),List.getElem?_append_right (by simp;omega),← hy]
          congr 1
          simp;omega
        simp (disch:=omega) only[g,ec,epc,hobj,idxO_some,ldnR_some,gx,gy,x1,y1,tx,ty,wrap_i64,wrap_u64,Nat.le_refl,↓evPre,↓evPreV,evPost,evPostV,evR,evU,seval]
        refine (hc y x _ (hWo y hym) (hUo x hxm) (hor x hxm y hym)).mono ?_
        rintro r S' ⟨⟨n,rfl,hn⟩,rfl⟩
        cases hlt : lt y x
        · have hn' : ¬ (n < 0):=fun h=>by rw[hn.1 h] at hlt;cases hlt
          simp (disch:=omega) only[hn',wrap_i64,↓evPre,↓evPreV,evPost,evPostV,evR,evU,seval]
          refine ⟨(c + 1,j),⟨by simp only;omega,by simp only;omega,h3,fun d u w k1 k2 k3 k4=>?_,h5⟩,by simp only;omega,by simp,rfl⟩
          simp only at k2
          have ou:=hUo u (List.mem_of_getElem? k3)
          have ow:=hWo w (List.mem_of_getElem? k4)
          exact ho.trans u y w ou (hWo y hym) ow (ho.trans u x y ou (hUo x hxm) (hWo y hym) (srt_get' ho hUs hUo (by omega) k3 hx) hlt) (srt_get' ho hWs hWo (by omega) hy k4)
        · have hn' : n < 0:=hn.2 hlt
          simp (disch:=omega) only[hn',wrap_i64,↓evPre,↓evPreV,evPost,evPostV,evR,evU,seval]
          refine ⟨(i,c),⟨h1,by simp only;omega,by simp only;omega,h4,fun d u w k1 k2 k3 k4=>?_⟩,by simp only;omega,rfl,rfl⟩
          simp only at k1
          have ou:=hUo u (List.mem_of_getElem? k3)
          have ow:=hWo w (List.mem_of_getElem? k4)
          exact lt_right ho ow (hUo x hxm) ou (lt_left ho ow (hWo y hym) (hUo x hxm) (srt_get' ho hWs hWo (by omega) k4 hy) hlt) (srt_get' ho hUs hUo (by omega) hx k3)
      · have g : ¬ ((i : Int) < j):=by omega
        have hij' : i = j:=by omega
        subst hij'
        obtain ⟨A1,A2,hUe,hA1⟩:=cut_list (l:=U) (s:=i - a) (by omega)
        obtain ⟨B1,B2,hWe,hB1⟩:=cut_list (l:=W) (s:=mid - i) (by omega)
        obtain ⟨k1,k2⟩:=cross i A1 A2 B1 B2 hUe hWe hA1 hB1 h1 h3 h4 h5
        obtain ⟨q,hq⟩ : ∃ q,q = nn - i:=⟨_,rfl⟩
        have eq : (nn : Int) - i = (q : Nat):=by omega
        have hA2 : A1.length + A2.length = U.length:=by rw[hUe];simp
        have hB2 : B1.length + B2.length = W.length:=by rw[hWe];simp
        have l1 : (P ++ A1).length = i:=by simp;omega
        have l2 : i + A2.length = m:=by omega
        have l3 : m + B1.length = q:=by omega
        have hRot : P ++ U ++ W ++ Q = (P ++ A1) ++ A2 ++ B1 ++ (B2 ++ Q):=by rw[hUe,hWe];simp
        have hw2 : W2 ((P ++ A1) ++ A2 ++ B1 ++ (B2 ++ Q)):=by rw[← hRot];exact hw
        have hA1s : Srt lt A1:=by rw[hUe] at hUs;unfold Srt at *;exact (List.pairwise_append.1 hUs).1
        have hA2s : Srt lt A2:=by rw[hUe] at hUs;unfold Srt at *;exact (List.pairwise_append.1 hUs).2.1
        have hB1s : Srt lt B1:=by rw[hWe] at hWs;unfold Srt at *;exact (List.pairwise_append.1 hWs).1
        have hB2s : Srt lt B2:=by rw[hWe] at hWs;unfold Srt at *;exact (List.pairwise_append.1 hWs).2.1
        have oA1 : ∀ r ∈ A1,ok r:=fun r hr=>hUo r (by rw[hUe];simp [hr])
        have oA2 : ∀ r ∈ A2,ok r:=fun r hr=>hUo r (by rw[hUe];simp [hr])
        have oB1 : ∀ r ∈ B1,ok r:=fun r hr=>hWo r (by rw[hWe];simp [hr])
        have oB2 : ∀ r ∈ B2,ok r:=fun r hr=>hWo r (by rw[hWe];simp [hr])
        have hw3 : W2 (P ++ A1 ++ B1 ++ (A2 ++ (B2 ++ Q))):=by
          simp only[W2_app] at hw2 ⊢
          simp [hw2]
        have hskip : A2.length = 0 ∨ B1.length = 0 → P ++ U ++ W ++ Q = P ++ A1 ++ B1 ++ (A2 ++ (B2 ++ Q)):=fun h=>by
          rw[hRot]
          rcases h with h | h
          · rw[List.length_eq_zero_iff.1 h];simp
          · rw[List.length_eq_zero_iff.1 h];simp
        have hr1 : A2.length ≠ 0 → B1.length ≠ 0 → CallA Tryz.prog 172 [.msl id ver 0 N,.int .i64 i,.int .i64 m,.int .i64 q,.func f first cap] (rset S id ver (P ++ U ++ W ++ Q)) fun r S'=>r = .tup [] ∧ S' = rset S id ver (P ++ A1 ++ B1 ++ (A2 ++ (B2 ++ Q))):=fun g1 g2=>by
          have hr:=rotate_A (P ++ A1) A2 B1 (B2 ++ Q) S id ver N (.func f first cap) hid hw2 (by rw[← hRot];exact hN) hl (by omega) (by omega)
          rw[l1,l2,l3,← hRot] at hr
          refine hr.mono ?_
          rintro r S' ⟨rfl,rfl⟩
          exact ⟨rfl,by simp⟩
        have hr2 : A1.length ≠ 0 → B1.length ≠ 0 → CallA Tryz.prog 149 [.msl id ver 0 N,.int .i64 a,.int .i64 i,.int .i64 mid,.func f first cap] (rset S id ver (P ++ A1 ++ B1 ++ (A2 ++ (B2 ++ Q)))) fun r S'=>r = .tup [] ∧ ∃ L,L.Perm (A1 ++ B1) ∧ Srt lt L ∧ S' = rset S id ver (P ++ L ++ (A2 ++ (B2 ++ Q))):=fun g1 g2 =>
          ih P A1 B1 (A2 ++ (B2 ++ Q)) S id ver a i mid N (by omega) hid hw3 oA1 oB1 ha (by omega) (by omega) (by simp;omega) hl hA1s hB1s (by omega) (by omega) (fun x hx y hy=>hor x (by rw[hUe];simp [hx]) y (by rw[hWe];simp [hy]))
        have hr3 : A2.length ≠ 0 → B2.length ≠ 0 → ∀ L : List (List V),L.Perm (A1 ++ B1) → CallA Tryz.prog 149 [.msl id ver 0 N,.int .i64 mid,.int .i64 q,.int .i64 b,.func f first cap] (rset S id ver (P ++ L ++ (A2 ++ (B2 ++ Q)))) fun r S'=>r = .tup [] ∧ ∃ R,R.Perm (A2 ++ B2) ∧ Srt lt R ∧ S' = rset S id ver (P ++ L ++ R ++ Q):=fun g1 g2 L hL=>by
          have hLl:=hL.length_eq
          simp only[List.length_append] at hLl
          have e : P ++ L ++ (A2 ++ (B2 ++ Q)) = (P ++ L) ++ A2 ++ B2 ++ Q:=by simp
          rw[e]
          refine ih (P ++ L) A2 B2 Q S id ver mid q b N (by omega) hid ?_ oA2 oB2 (by simp;omega) (by omega) (by omega) (by simp;omega) hl hA2s hB2s (by omega) (by omega) (fun x hx y hy=>hor x (by rw[hUe];simp [hx]) y (by rw[hWe];simp [hy]))
          have hLw : W2 L:=fun r hr=>by
            have:=hL.mem_iff.1 hr
            simp only[W2_app] at hw3
            rcases List.mem_append.1 this with h | h
            · exact hw3.1.1.2 r h
            · exact hw3.1.2 r h
          simp only[W2_app] at hw3 ⊢
          simp [hw3,hLw]
        have fin' : ∀ (L R : List (List V)),L.Perm (A1 ++ B1) → Srt lt L → R.Perm (A2 ++ B2) → Srt lt R → ∃ M',M'.Perm (U ++ W) ∧ Srt lt M' ∧ rset S id ver (P ++ L ++ R ++ Q) = rset S id ver (P ++ M' ++ Q):=fun L R g1 g2 g3 g4=>fin R0 i A1 A2 B1 B2 L R hUe hWe k1 k2 g1 g2 g3 g4
        have hLs : A1.length = 0 ∨ B1.length = 0 → Srt lt (A1 ++ B1):=fun h=>by
          rcases h with h | h
          · rw[List.length_eq_zero_iff.1 h];exact hB1s
          · rw[List.length_eq_zero_iff.1 h,List.append_nil];exact hA1s
        have hRs : A2.length = 0 ∨ B2.length = 0 → Srt lt (A2 ++ B2):=fun h=>by
          rcases h with h | h
          · rw[List.length_eq_zero_iff.1 h];exact hB2s
          · rw[List.length_eq_zero_iff.1 h,List.append_nil];exact hA2s
        have endE : ∀ L : List (List V),rset S id ver (P ++ L ++ (A2 ++ (B2 ++ Q))) = rset S id ver (P ++ L ++ (A2 ++ B2) ++ Q):=fun L=>by simp
        have endL : rset S id ver (P ++ A1 ++ B1 ++ (A2 ++ (B2 ++ Q))) = rset S id ver (P ++ (A1 ++ B1) ++ (A2 ++ (B2 ++ Q))):=by simp
        by_cases q1 : A1.length = 0<;>by_cases q2 : A2.length = 0<;>by_cases p1 : B1.length = 0<;>by_cases p2 : B2.length = 0
        · -- A1 0 A2 0 B1 0 B2 0
          have d1 : ¬ ((a : Int) < i):=by omega
          have d2 : ¬ ((i : Int) < mid):=by omega
          have d3 : ¬ ((mid : Int) < q):=by omega
          have d4 : ¬ ((q : Int) < b):=by omega
          have d5 : ¬ ((i : Int) < m):=by omega
          have d6 : ¬ ((m : Int) < q):=by omega
          rw[hskip (by omega)]
          try simp (disch:=omega) only[g,eq,d1,d2,d3,d4,d5,d6,wrap_i64,↓evPre,↓evPreV,evPost,evPostV,evR,evU,seval]
          rw[endL]
          have hL1 : (A1 ++ B1).Perm (A1 ++ B1):=List.Perm.refl _
          have hL2:=hLs (by omega)
          rw[endE]
          exact fin' (A1 ++ B1) (A2 ++ B2) hL1 hL2 (List.Perm.refl _) (hRs (by omega))
        · -- A1 0 A2 0 B1 0 B2 1
          have d1 : ¬ ((a : Int) < i):=by omega
          have d2 : ¬ ((i : Int) < mid):=by omega
          have d3 : ¬ ((mid : Int) < q):=by omega
          have d4 : (q : Int) < b:=by omega
          have d5 : ¬ ((i : Int) < m):=by omega
          have d6 : ¬ ((m : Int) < q):=by omega
          rw[hskip (by omega)]
          try simp (disch:=omega) only[g,eq,d1,d2,d3,d4,d5,d6,wrap_i64,↓evPre,↓evPreV,evPost,evPostV,evR,evU,seval]
          rw[endL]
          have hL1 : (A1 ++ B1).Perm (A1 ++ B1):=List.Perm.refl _
          have hL2:=hLs (by omega)
          rw[endE]
          exact fin' (A1 ++ B1) (A2 ++ B2) hL1 hL2 (List.Perm.refl _) (hRs (by omega))
        · -- A1 0 A2 0 B1 1 B2 0
          have d1 : ¬ ((a : Int) < i):=by omega
          have d2 : (i : Int) < mid:=by omega
          have d3 : ¬ ((mid : Int) < q):=by omega
          have d4 : ¬ ((q : Int) < b):=by omega
          have d5 : ¬ ((i : Int) < m):=by omega
          have d6 : (m : Int) < q:=by omega
          rw[hskip (by omega)]
          try simp (disch:=omega) only[g,eq,d1,d2,d3,d4,d5,d6,wrap_i64,↓evPre,↓evPreV,evPost,evPostV,evR,evU,seval]
          rw[endL]
          have hL1 : (A1 ++ B1).Perm (A1 ++ B1):=List.Perm.refl _
          have hL2:=hLs (by omega)
          rw[endE]
          exact fin' (A1 ++ B1) (A2 ++ B2) hL1 hL2 (List.Perm.refl _) (hRs (by omega))
        · -- A1 0 A2 0 B1 1 B2 1
          have d1 : ¬ ((a : Int) < i):=by omega
          have d2 : (i : Int) < mid:=by omega
          have d3 : ¬ ((mid : Int) < q):=by omega
          have d4 : (q : Int) < b:=by omega
          have d5 : ¬ ((i : Int) < m):=by omega
          have d6 : (m : Int) < q:=by omega
          rw[hskip (by omega)]
          try simp (disch:=omega) only[g,eq,d1,d2,d3,d4,d5,d6,wrap_i64,↓evPre,↓evPreV,evPost,evPostV,evR,evU,seval]
          rw[endL]
          have hL1 : (A1 ++ B1).Perm (A1 ++ B1):=List.Perm.refl _
          have hL2:=hLs (by omega)
          rw[endE]
          exact fin' (A1 ++ B1) (A2 ++ B2) hL1 hL2 (List.Perm.refl _) (hRs (by omega))
        · -- A1 0 A2 1 B1 0 B2 0
          have d1 : ¬ ((a : Int) < i):=by omega
          have d2 : ¬ ((i : Int) < mid):=by omega
          have d3 : (mid : Int) < q:=by omega
          have d4 : ¬ ((q : Int) < b):=by omega
          have d5 : (i : Int) < m:=by omega
          have d6 : ¬ ((m : Int) < q):=by omega
          rw[hskip (by omega)]
          try simp (disch:=omega) only[g,eq,d1,d2,d3,d4,d5,d6,wrap_i64,↓evPre,↓evPreV,evPost,evPostV,evR,evU,seval]
          rw[endL]
          have hL1 : (A1 ++ B1).Perm (A1 ++ B1):=List.Perm.refl _
          have hL2:=hLs (by omega)
          rw[endE]
          exact fin' (A1 ++ B1) (A2 ++ B2) hL1 hL2 (List.Perm.refl _) (hRs (by omega))
        · -- A1 0 A2 1 B1 0 B2 1
          have d1 : ¬ ((a : Int) < i):=by omega
          have d2 : ¬ ((i : Int) < mid):=by omega
          have d3 : (mid : Int) < q:=by omega
          have d4 : (q : Int) < b:=by omega
          have d5 : (i : Int) < m:=by omega
          have d6 : ¬ ((m : Int) < q):=by omega
          rw[hskip (by omega)]
          try simp (disch:=omega) only[g,eq,d1,d2,d3,d4,d5,d6,wrap_i64,↓evPre,↓evPreV,evPost,evPostV,evR,evU,seval]
          rw[endL]
          have hL1 : (A1 ++ B1).Perm (A1 ++ B1):=List.Perm.refl _
          have hL2:=hLs (by omega)
          refine (hr3 q2 p2 (A1 ++ B1) hL1).mono ?_
          rintro r S' ⟨rfl,R,hR1,hR2,rfl⟩
          try simp (disch:=omega) only[↓evPre,↓evPreV,evPost,evPostV,evR,evU,seval]
          exact fin' (A1 ++ B1) R hL1 hL2 hR1 hR2
        · -- A1 0 A2 1 B1 1 B2 0
          have d1 : ¬ ((a : Int) < i):=by omega
          have d2 : (i : Int) < mid:=by omega
          have d3 : (mid : Int) < q:=by omega
          have d4 : ¬ ((q : Int) < b):=by omega
          have d5 : (i : Int) < m:=by omega
          have d6 : (m : Int) < q:=by omega
          try simp (disch:=omega) only[g,eq,d1,d2,d3,d4,d5,d6,wrap_i64,↓evPre,↓evPreV,evPost,evPostV,evR,evU,seval]
          refine (hr1 q2 p1).mono ?_
          rintro r S' ⟨rfl,rfl⟩
          try simp (disch:=omega) only[g,eq,d1,d2,d3,d4,d5,d6,wrap_i64,↓evPre,↓evPreV,evPost,evPostV,evR,evU,seval]
          rw[endL]
          have hL1 : (A1 ++ B1).Perm (A1 ++ B1):=List.Perm.refl _
          have hL2:=hLs (by omega)
          rw[endE]
          exact fin' (A1 ++ B1) (A2 ++ B2) hL1 hL2 (List.Perm.refl _) (hRs (by omega))
        · -- A1 0 A2 1 B1 1 B2 1
          have d1 : ¬ ((a : Int) < i):=by omega
          have d2 : (i : Int) < mid:=by omega
          have d3 : (mid : Int) < q:=by omega
          have d4 : (q : Int) < b:=by omega
          have d5 : (i : Int) < m:=by omega
          have d6 : (m : Int) < q:=by omega
          try simp (disch:=omega) only[g,eq,d1,d2,d3,d4,d5,d6,wrap_i64,↓evPre,↓evPreV,evPost,evPostV,evR,evU,seval]
          refine (hr1 q2 p1).mono ?_
          rintro r S' ⟨rfl,rfl⟩
          try simp (disch:=omega) only[g,eq,d1,d2,d3,d4,d5,d6,wrap_i64,↓evPre,↓evPreV,evPost,evPostV,evR,evU,seval]
          rw[endL]
          have hL1 : (A1 ++ B1).Perm (A1 ++ B1):=List.Perm.refl _
          have hL2:=hLs (by omega)
          refine (hr3 q2 p2 (A1 ++ B1) hL1).mono ?_
          rintro r S' ⟨rfl,R,hR1,hR2,rfl⟩
          try simp (disch:=omega) only[↓evPre,↓evPreV,evPost,evPostV,evR,evU,seval]
          exact fin' (A1 ++ B1) R hL1 hL2 hR1 hR2
        · -- A1 1 A2 0 B1 0 B2 0
          have d1 : (a : Int) < i:=by omega
          have d2 : ¬ ((i : Int) < mid):=by omega
          have d3 : ¬ ((mid : Int) < q):=by omega
          have d4 : ¬ ((q : Int) < b):=by omega
          have d5 : ¬ ((i : Int) < m):=by omega
          have d6 : ¬ ((m : Int) < q):=by omega
          rw[hskip (by omega)]
          try simp (disch:=omega) only[g,eq,d1,d2,d3,d4,d5,d6,wrap_i64,↓evPre,↓evPreV,evPost,evPostV,evR,evU,seval]
          rw[endL]
          have hL1 : (A1 ++ B1).Perm (A1 ++ B1):=List.Perm.refl _
          have hL2:=hLs (by omega)
          rw[endE]
          exact fin' (A1 ++ B1) (A2 ++ B2) hL1 hL2 (List.Perm.refl _) (hRs (by omega))
        · -- A1 1 A2 0 B1 0 B2 1
          have d1 : (a : Int) < i:=by omega
          have d2 : ¬ ((i : Int) < mid):=by omega
          have d3 : ¬ ((mid : Int) < q):=by omega
          have d4 : (q : Int) < b:=by omega
          have d5 : ¬ ((i : Int) < m):=by omega
          have d6 : ¬ ((m : Int) < q):=by omega
          rw[hskip (by omega)]
          try simp (disch:=omega) only[g,eq,d1,d2,d3,d4,d5,d6,wrap_i64,↓evPre,↓evPreV,evPost,evPostV,evR,evU,seval]
          rw[endL]
          have hL1 : (A1 ++ B1).Perm (A1 ++ B1):=List.Perm.refl _
          have hL2:=hLs (by omega)
          rw[endE]
          exact fin' (A1 ++ B1) (A2 ++ B2) hL1 hL2 (List.Perm.refl _) (hRs (by omega))
        · -- A1 1 A2 0 B1 1 B2 0
          have d1 : (a : Int) < i:=by omega
          have d2 : (i : Int) < mid:=by omega
          have d3 : ¬ ((mid : Int) < q):=by omega
          have d4 : ¬ ((q : Int) < b):=by omega
          have d5 : ¬ ((i : Int) < m):=by omega
          have d6 : (m : Int) < q:=by omega
          rw[hskip (by omega)]
          try simp (disch:=omega) only[g,eq,d1,d2,d3,d4,d5,d6,wrap_i64,↓evPre,↓evPreV,evPost,evPostV,evR,evU,seval]
          refine (hr2 q1 p1).mono ?_
          rintro r S' ⟨rfl,L,hL1,hL2,rfl⟩
          try simp (disch:=omega) only[g,eq,d1,d2,d3,d4,d5,d6,wrap_i64,↓evPre,↓evPreV,evPost,evPostV,evR,evU,seval]
          rw[endE]
          exact fin' L (A2 ++ B2) hL1 hL2 (List.Perm.refl _) (hRs (by omega))
        · -- A1 1 A2 0 B1 1 B2 1
          have d1 : (a : Int) < i:=by omega
          have d2 : (i : Int) < mid:=by omega
          have d3 : ¬ ((mid : Int) < q):=by omega
          have d4 : (q : Int) < b:=by omega
          have d5 : ¬ ((i : Int) < m):=by omega
          have d6 : (m : Int) < q:=by omega
          rw[hskip (by omega)]
          try simp (disch:=omega) only[g,eq,d1,d2,d3,d4,d5,d6,wrap_i64,↓evPre,↓evPreV,evPost,evPostV,evR,evU,seval]
          refine (hr2 q1 p1).mono ?_
          rintro r S' ⟨rfl,L,hL1,hL2,rfl⟩
          try simp (disch:=omega) only[g,eq,d1,d2,d3,d4,d5,d6,wrap_i64,↓evPre,↓evPreV,evPost,evPostV,evR,evU,seval]
          rw[endE]
          exact fin' L (A2 ++ B2) hL1 hL2 (List.Perm.refl _) (hRs (by omega))
        · -- A1 1 A2 1 B1 0 B2 0
          have d1 : (a : Int) < i:=by omega
          have d2 : ¬ ((i : Int) < mid):=by omega
          have d3 : (mid : Int) < q:=by omega
          have d4 : ¬ ((q : Int) < b):=by omega
          have d5 : (i : Int) < m:=by omega
          have d6 : ¬ ((m : Int) < q):=by omega
          rw[hskip (by omega)]
          try simp (disch:=omega) only[g,eq,d1,d2,d3,d4,d5,d6,wrap_i64,↓evPre,↓evPreV,evPost,evPostV,evR,evU,seval]
          rw[endL]
          have hL1 : (A1 ++ B1).Perm (A1 ++ B1):=List.Perm.refl _
          have hL2:=hLs (by omega)
          rw[endE]
          exact fin' (A1 ++ B1) (A2 ++ B2) hL1 hL2 (List.Perm.refl _) (hRs (by omega))
        · -- A1 1 A2 1 B1 0 B2 1
          have d1 : (a : Int) < i:=by omega
          have d2 : ¬ ((i : Int) < mid):=by omega
          have d3 : (mid : Int) < q:=by omega
          have d4 : (q : Int) < b:=by omega
          have d5 : (i : Int) < m:=by omega
          have d6 : ¬ ((m : Int) < q):=by omega
          rw[hskip (by omega)]
          try simp (disch:=omega) only[g,eq,d1,d2,d3,d4,d5,d6,wrap_i64,↓evPre,↓evPreV,evPost,evPostV,evR,evU,seval]
          rw[endL]
          have hL1 : (A1 ++ B1).Perm (A1 ++ B1):=List.Perm.refl _
          have hL2:=hLs (by omega)
          refine (hr3 q2 p2 (A1 ++ B1) hL1).mono ?_
          rintro r S' ⟨rfl,R,hR1,hR2,rfl⟩
          try simp (disch:=omega) only[↓evPre,↓evPreV,evPost,evPostV,evR,evU,seval]
          exact fin' (A1 ++ B1) R hL1 hL2 hR1 hR2
        · -- A1 1 A2 1 B1 1 B2 0
          have d1 : (a : Int) < i:=by omega
          have d2 : (i : Int) < mid:=by omega
          have d3 : (mid : Int) < q:=by omega
          have d4 : ¬ ((q : Int) < b):=by omega
          have d5 : (i : Int) < m:=by omega
          have d6 : (m : Int) < q:=by omega
          try simp (disch:=omega) only[g,eq,d1,d2,d3,d4,d5,d6,wrap_i64,↓evPre,↓evPreV,evPost,evPostV,evR,evU,seval]
          refine (hr1 q2 p1).mono ?_
          rintro r S' ⟨rfl,rfl⟩
          try simp (disch:=omega) only[g,eq,d1,d2,d3,d4,d5,d6,wrap_i64,↓evPre,↓evPreV,evPost,evPostV,evR,evU,seval]
          refine (hr2 q1 p1).mono ?_
          rintro r S' ⟨rfl,L,hL1,hL2,rfl⟩
          try simp (disch:=omega) only[g,eq,d1,d2,d3,d4,d5,d6,wrap_i64,↓evPre,↓evPreV,evPost,evPostV,evR,evU,seval]
          rw[endE]
          exact fin' L (A2 ++ B2) hL1 hL2 (List.Perm.refl _) (hRs (by omega))
        · -- A1 1 A2 1 B1 1 B2 1
          have d1 : (a : Int) < i:=by omega
          have d2 : (i : Int) < mid:=by omega
          have d3 : (mid : Int) < q:=by omega
          have d4 : (q : Int) < b:=by omega
          have d5 : (i : Int) < m:=by omega
          have d6 : (m : Int) < q:=by omega
          try simp (disch:=omega) only[g,eq,d1,d2,d3,d4,d5,d6,wrap_i64,↓evPre,↓evPreV,evPost,evPostV,evR,evU,seval]
          refine (hr1 q2 p1).mono ?_
          rintro r S' ⟨rfl,rfl⟩
          try simp (disch:=omega) only[g,eq,d1,d2,d3,d4,d5,d6,wrap_i64,↓evPre,↓evPreV,evPost,evPostV,evR,evU,seval]
          refine (hr2 q1 p1).mono ?_
          rintro r S' ⟨rfl,L,hL1,hL2,rfl⟩
          try simp (disch:=omega) only[g,eq,d1,d2,d3,d4,d5,d6,wrap_i64,↓evPre,↓evPreV,evPost,evPostV,evR,evU,seval]
          refine (hr3 q2 p2 L hL1).mono ?_
          rintro r S' ⟨rfl,R,hR1,hR2,rfl⟩
          try simp (disch:=omega) only[↓evPre,↓evPreV,evPost,evPostV,evR,evU,seval]
          exact fin' L R hL1 hL2 hR1 hR2
end Go.Proofs.YtiihkfjbllpiaaaGreatDoor
/- The stable sort. -/
namespace Go.Proofs.YtiihkfjbllpiaaaGreatDoor
open Go Go.AL
set_option linter.unusedSectionVars false
variable [Go.AL.Mode] [Go.AL.LooseM]
set_option linter.unusedSimpArgs false
set_option linter.unusedVariables false
set_option maxHeartbeats 8000000
theorem symAll {f : FuncId} {first cap : List V} {ok : List V → Prop} {lt : List V → List V → Bool} {ord : List V → List V → Prop} (hc : Cmps f first cap ok lt ord) (ho : Ords ok lt) : ∀ k,SymOk f first cap ok lt ord k
  | 0=>fun P U W Q S id ver a m b N hk _ _ _ _ _ _ _ _ _ _ _ hU hW _=>by omega
  | k + 1=>fun P U W Q S id ver a m b N hk hid hw hUo hWo ha hm hb hN hl hUs hWs hU hW hor=>by
    by_cases h1 : U.length = 1
    · obtain ⟨u,rfl⟩:=List.length_eq_one_iff.1 h1
      exact sym1_A P W Q u S id ver a m b N f first cap ok lt ord hc ho hid hw (hUo u (by simp)) hWo ha (by simpa using hm) hb hN hl hWs (fun y hy=>hor u (by simp) y hy)
    · by_cases h2 : W.length = 1
      · obtain ⟨w,rfl⟩:=List.length_eq_one_iff.1 h2
        exact sym2_A P U Q w S id ver a m b N f first cap ok lt ord hc ho hid hw (hWo w (by simp)) hUo ha hm (by simpa using hb) hN hl hUs h1 (fun y hy=>hor y hy w (by simp))
      · exact sym_step hc ho (symAll hc ho k) P U W Q S id ver a m b N hk hid hw hUo hWo ha hm hb hN hl hUs hWs (by omega) (by omega) hor
def RunsOf (lt : List V → List V → Bool) (k : Nat) : List (List (List V)) → Prop
  | []=>True
  | [r]=>Srt lt r ∧ 0 < r.length ∧ r.length ≤ k
  | r :: s :: t=>Srt lt r ∧ r.length = k ∧ RunsOf lt k (s :: t)
theorem runs_full {lt : List V → List V → Bool} {k : Nat} (hk : 0 < k) : ∀ (D : List (List (List V))) (T : List (List (List V))),(∀ r ∈ D,Srt lt r ∧ r.length = k) → RunsOf lt k T → RunsOf lt k (D ++ T)
  | [],T,_,hT=>hT
  | [d],[],hD,_=>by
    have:=hD d (by simp)
    exact ⟨this.1,by omega,by omega⟩
  | [d],t :: T,hD,hT=>⟨(hD d (by simp)).1,(hD d (by simp)).2,hT⟩
  | d :: e :: D,T,hD,hT=>⟨(hD d (by simp)).1,(hD d (by simp)).2,runs_full hk (e :: D) T (fun r hr=>hD r (List.mem_cons_of_mem _ hr)) hT⟩
theorem runs_one {lt : List V → List V → Bool} {k : Nat} (hk : 0 < k) : ∀ (T : List (List (List V))),RunsOf lt k T → T.flatten.length ≤ k → Srt lt T.flatten
  | [],_,_=>List.Pairwise.nil
  | [r],h,_=>by simpa using h.1
  | r :: s :: t,h,hl=>by
    exfalso
    have h1:=h.2.1
    have h2 : 0 < s.length:=by
      cases t with
      | nil=>exact h.2.2.2.1
      | cons u t =>
        have h3:=h.2.2.2.1
        omega
    simp only[List.flatten_cons,List.length_append] at hl
    omega
def OrdR (ord : List V → List V → Prop) (R : List (List (List V))) : Prop:=R.Pairwise fun r s=>∀ x ∈ r,∀ y ∈ s,ord x y
section
variable {ord : List V → List V → Prop} {D T : List (List (List V))} {r s M M' : List (List V)}
theorem ordR_snoc (h : OrdR ord D) (hp : M'.Perm M) (hd : ∀ x ∈ D.flatten,∀ y ∈ M,ord x y) : OrdR ord (D ++ [M']):=by
  refine List.pairwise_append.2 ⟨h,List.pairwise_singleton _ _,fun q hq q' hq' x hx y hy=>?_⟩
  simp only[List.mem_singleton] at hq'
  subst hq'
  exact hd x (List.mem_flatten.2 ⟨q,hq,hx⟩) y (hp.mem_iff.1 hy)
theorem ordR_two (h : OrdR ord (D ++ r :: s :: T)) : ∀ x ∈ r,∀ y ∈ s,ord x y :=
  (List.pairwise_cons.1 (List.pairwise_append.1 h).2.1).1 s (by simp)
theorem ordR_merge (h : OrdR ord (D ++ r :: s :: T)) (hp : M'.Perm (r ++ s)) : OrdR ord (D ++ [M'] ++ T):=by
  obtain ⟨h1,h2,h3⟩:=List.pairwise_append.1 h
  obtain ⟨h4,h5⟩:=List.pairwise_cons.1 h2
  obtain ⟨h6,h7⟩:=List.pairwise_cons.1 h5
  have hm : ∀ x,x ∈ M' → x ∈ r ∨ x ∈ s:=fun x hx=>List.mem_append.1 (hp.mem_iff.1 hx)
  rw[List.append_assoc]
  refine List.pairwise_append.2 ⟨h1,List.pairwise_cons.2 ⟨fun q hq x hx y hy=>?_,h7⟩,fun q hq q' hq' x hx y hy=>?_⟩
  · rcases hm x hx with hx | hx
    · exact h4 q (List.mem_cons_of_mem _ hq) x hx y hy
    · exact h6 q hq x hx y hy
  · simp only[List.singleton_append,List.mem_cons] at hq'
    rcases hq' with rfl | hq'
    · rcases hm y hy with hy | hy
      · exact h3 q hq r (by simp) x hx y hy
      · exact h3 q hq s (by simp) x hx y hy
    · exact h3 q hq q' (by simp [hq']) x hx y hy
theorem ordR_rest (h : OrdR ord (D ++ T)) : OrdR ord (D ++ [T.flatten]):=by
  obtain ⟨h1,h2,h3⟩:=List.pairwise_append.1 h
  refine List.pairwise_append.2 ⟨h1,List.pairwise_singleton _ _,fun q hq q' hq' x hx y hy=>?_⟩
  simp only[List.mem_singleton] at hq'
  subst hq'
  obtain ⟨q',hq',hy⟩:=List.mem_flatten.1 hy
  exact h3 q hq q' hq' x hx y hy
end
theorem runs_two {lt : List V → List V → Bool} {k : Nat} : ∀ (T : List (List (List V))),0 < k → RunsOf lt k T → 2 * k ≤ T.flatten.length → ∃ r s T',T = r :: s :: T' ∧ Srt lt r ∧ Srt lt s ∧ r.length = k ∧ s.length = k ∧ RunsOf lt k T'
  | [],hk,_,h=>by simp at h;omega
  | [r],hk,h,hl=>by
    have:=h.2.2
    simp at hl
    omega
  | [r,s],hk,h,hl=>by
    have h1:=h.2.1
    have h2:=h.2.2.2.2
    simp at hl
    exact ⟨r,s,[],rfl,h.1,h.2.2.1,h1,by omega,trivial⟩
  | r :: s :: t :: T,hk,h,_=>⟨r,s,t :: T,rfl,h.1,h.2.2.1,h.2.1,h.2.2.2.1,h.2.2.2.2⟩
theorem runs_less {lt : List V → List V → Bool} {k : Nat} : ∀ (T : List (List (List V))),0 < k → RunsOf lt k T → T.flatten.length < 2 * k → (T.flatten.length ≤ k ∧ Srt lt T.flatten) ∨ ∃ r s,T = [r,s] ∧ Srt lt r ∧ Srt lt s ∧ r.length = k ∧ 0 < s.length
  | [],_,_,_=>.inl ⟨by simp,List.Pairwise.nil⟩
  | [r],_,h,_=>.inl ⟨by simpa using h.2.2,by simpa using h.1⟩
  | [r,s],_,h,_=>.inr ⟨r,s,rfl,h.1,h.2.2.1,h.2.1,h.2.2.2.1⟩
  | r :: s :: t :: T,_,h,hl=>by
    have h1:=h.2.1
    have h2:=h.2.2.2.1
    simp only[List.flatten_cons,List.length_append] at hl
    omega
theorem stable_A {f : FuncId} {first cap : List V} {ok : List V → Prop} {lt : List V → List V → Bool} {ord : List V → List V → Prop} (hc : Cmps f first cap ok lt ord) (ho : Ords ok lt) (rows : List (List V)) (S : Store) (id ver N : Nat)
    (hid : id < S.length) (hokw : ∀ r,ok r → r.length = 8 ∧ r.all V.cellOk = true) (hok : ∀ r ∈ rows,ok r) (hN : rows.length = N) (hl : N ≤ 1073741824) (hor : rows.Pairwise ord) :
    CallA Tryz.prog 108 [.msl id ver 0 N,.int .i64 N,.func f first cap] (rset S id ver rows) fun r S'=>r = .tup [] ∧ ∃ M',M'.Perm rows ∧ Srt lt M' ∧ S' = rset S id ver M':=by
  refine CallA.keep Tryz.func108 c608 (Nat.le_of_ble_eq_true rfl) fun σ hσ=>?_
  simp (disch:=omega) only[a608,wrap_i64,↓evPre,↓evPreV,evPost,evPostV,evR,evU,seval]
  refine loopA (ι:=List (List (List V)) × List (List V)) (fun i=>[(0,.msl id ver 0 N),(1,.int .i64 N),(2,.func f first cap),(6,.int .i64 20),(7,.int .i64 i.1.flatten.length),(8,.int .i64 (i.1.flatten.length + 20 : Nat))])
    (fun i=>rset S id ver (i.1.flatten ++ i.2)) (fun i=>(i.1.flatten ++ i.2).Perm rows ∧ (∀ r ∈ i.1,Srt lt r ∧ r.length = 20) ∧ OrdR ord i.1 ∧ i.2.Pairwise ord ∧ ∀ x ∈ i.1.flatten,∀ y ∈ i.2,ord x y) (fun i=>i.2.length) ([],rows) ⟨List.Perm.refl _,by simp,List.Pairwise.nil,hor,by simp⟩ ?_ (by simp) ?_
  · simp only[↓evPre,↓evPreV,evPost,evPostV,evR,evU,seval]
    try simp
  · rintro ⟨D,T⟩ ⟨hp,hD,hoD,hoT,hoDT⟩
    simp only at hp hD hoD hoT hoDT ⊢
    have hlen:=hp.length_eq
    simp only[List.length_append] at hlen
    by_cases hT : 20 ≤ T.length
    · have g : ((D.flatten.length + 20 : Nat) : Int) ≤ N:=by omega
      simp (disch:=omega) only[g,wrap_i64,↓evPre,↓evPreV,evPost,evPostV,evR,evU,seval]
      obtain ⟨M,T',rfl,hM⟩:=cut_list (l:=T) (s:=20) hT
      have hokT : ∀ r ∈ D.flatten ++ M ++ T',ok r:=fun r hr=>hok r (hp.mem_iff.1 (by simpa using hr))
      have hins:=insertion_A D.flatten M T' S id ver D.flatten.length (D.flatten.length + 20) N f first cap ok lt ord hc ho hid (fun r hr=>hokw r (hokT r hr)) (fun r hr=>hokT r (by simp [hr])) rfl (by omega) (by simp at hlen ⊢;omega) (by omega) (List.pairwise_append.1 hoT).1
      rw[List.append_assoc] at hins
      refine hins.mono ?_
      rintro r S' ⟨rfl,M',h1,h2,rfl⟩
      have hl':=h1.length_eq
      refine ⟨(D ++ [M'],T'),⟨?_,fun r hr=>?_,ordR_snoc hoD h1 (fun x hx y hy=>hoDT x hx y (by simp [hy])),(List.pairwise_append.1 hoT).2.1,fun x hx y hy=>?_⟩,by simp;omega,⟨by simp;omega,by simp;omega⟩,by simp⟩
      · refine List.Perm.trans ?_ hp
        simp only[List.flatten_append,List.flatten_cons,List.flatten_nil,List.append_nil,List.append_assoc]
        exact List.Perm.append_left _ (List.Perm.append_right _ h1)
      · rcases List.mem_append.1 hr with hr | hr
        · exact hD r hr
        · simp only[List.mem_singleton] at hr
          subst hr
          exact ⟨h2,by omega⟩
      · simp only[List.flatten_append,List.flatten_cons,List.flatten_nil,List.append_nil,List.mem_append] at hx
        rcases hx with hx | hx
        · exact hoDT x hx y (by simp [hy])
        · exact (List.pairwise_append.1 hoT).2.2 x (h1.mem_iff.1 hx) y hy
    · have g : ¬ (((D.flatten.length + 20 : Nat) : Int) ≤ N):=by omega
      simp (disch:=omega) only[g,wrap_i64,↓evPre,↓evPreV,evPost,evPostV,evR,evU,seval]
      have hokT : ∀ r ∈ D.flatten ++ T ++ [],ok r:=fun r hr=>hok r (hp.mem_iff.1 (by simpa using hr))
      have hins:=insertion_A D.flatten T [] S id ver D.flatten.length N N f first cap ok lt ord hc ho hid (fun r hr=>hokw r (hokT r hr)) (fun r hr=>hokT r (by simp [hr])) rfl (by omega) (by simp at hlen ⊢;omega) (by omega) hoT
      rw[List.append_nil] at hins
      refine hins.mono ?_
      rintro r S' ⟨rfl,M',h1,h2,rfl⟩
      have hl':=h1.length_eq
      obtain ⟨R,hR,hoR,hRf⟩ : ∃ R,RunsOf lt 20 R ∧ OrdR ord R ∧ R.flatten = D.flatten ++ M' ++ []:=by
        by_cases h0 : M'.length = 0
        · rw[List.length_eq_zero_iff.1 h0]
          exact ⟨D ++ [],runs_full (by omega) D [] hD trivial,by simpa using hoD,by simp⟩
        · exact ⟨D ++ [M'],runs_full (by omega) D [M'] hD ⟨h2,by omega,by omega⟩,ordR_snoc hoD h1 hoDT,by simp⟩
      have hRp : R.flatten.Perm rows:=by
        rw[hRf,List.append_nil]
        exact (List.Perm.append_left _ h1).trans hp
      rw[← hRf]
      refine loopA (ι:=Nat × List (List (List V))) (fun i=>[(0,.msl id ver 0 N),(1,.int .i64 N),(2,.func f first cap),(6,.int .i64 i.1)]) (fun i=>rset S id ver i.2.flatten)
        (fun i=>i.2.flatten.Perm rows ∧ RunsOf lt i.1 i.2 ∧ OrdR ord i.2 ∧ 20 ≤ i.1 ∧ i.1 ≤ 2 * N + 20) (fun i=>N - i.1) (20,R) ⟨hRp,hR,hoR,by simp only;omega,by simp only;omega⟩ ?_ rfl ?_
      · simp only[↓evPre,↓evPreV,evPost,evPostV,evR,evU,seval]
        try omega
      · rintro ⟨bs,R⟩ ⟨hp,hR,hoR,hb1,hb2⟩
        simp only at hp hR hoR hb1 hb2 ⊢
        have hlen:=hp.length_eq
        by_cases hbs : bs < N
        · have g : (bs : Int) < N:=by omega
          simp (disch:=omega) only[g,wrap_i64,↓evPre,↓evPreV,evPost,evPostV,evR,evU,seval]
          have okR : ∀ r ∈ R.flatten,ok r:=fun r hr=>hok r (hp.mem_iff.1 hr)
          refine loopA (ι:=List (List (List V)) × List (List (List V))) (fun i=>[(0,.msl id ver 0 N),(1,.int .i64 N),(2,.func f first cap),(6,.int .i64 bs),(7,.int .i64 i.1.flatten.length),(8,.int .i64 (i.1.flatten.length + 2 * bs : Nat))]) (fun i=>rset S id ver (i.1.flatten ++ i.2.flatten))
            (fun i=>(i.1.flatten ++ i.2.flatten).Perm rows ∧ RunsOf lt bs i.2 ∧ (∀ r ∈ i.1,Srt lt r ∧ r.length = 2 * bs) ∧ OrdR ord (i.1 ++ i.2)) (fun i=>i.2.length) ([],R) ⟨by simpa using hp,hR,by simp,hoR⟩ ?_ (by simp) ?_
          · simp only[↓evPre,↓evPreV,evPost,evPostV,evR,evU,seval]
            try simp
          · rintro ⟨D,T⟩ ⟨hp,hT,hD,hoDT⟩
            simp only at hp hT hD hoDT ⊢
            have hlen:=hp.length_eq
            simp only[List.length_append] at hlen
            have okT : ∀ r ∈ D.flatten ++ T.flatten,ok r:=fun r hr=>hok r (hp.mem_iff.1 hr)
            have ebs : (D.flatten.length : Int) + bs = (D.flatten.length + bs : Nat):=by omega
            by_cases h2 : 2 * bs ≤ T.flatten.length
            · have g : ((D.flatten.length + 2 * bs : Nat) : Int) ≤ N:=by omega
              simp (disch:=omega) only[g,ebs,wrap_i64,↓evPre,↓evPreV,evPost,evPostV,evR,evU,seval]
              obtain ⟨r,s,T',rfl,hr,hs,hrl,hsl,hT'⟩:=runs_two T (by omega) hT h2
              have e : D.flatten ++ (r :: s :: T').flatten = D.flatten ++ r ++ s ++ T'.flatten:=by simp
              rw[e]
              have okrs : ∀ x ∈ D.flatten ++ r ++ s ++ T'.flatten,ok x:=by rw[← e];exact okT
              refine (symAll hc ho (r.length + s.length) D.flatten r s T'.flatten S id ver D.flatten.length (D.flatten.length + bs) (D.flatten.length + 2 * bs) N (Nat.le_refl _) hid (fun x hx=>hokw x (okrs x hx)) (fun x hx=>okrs x (by simp [hx])) (fun x hx=>okrs x (by simp [hx])) rfl (by omega) (by omega) (by rw[← e,List.length_append,hlen];exact hN) (by omega) hr hs (by omega) (by omega) (ordR_two hoDT)).mono ?_
              rintro v S' ⟨rfl,M',h1,h3,rfl⟩
              have hl':=h1.length_eq
              simp only[List.length_append] at hl'
              refine ⟨(D ++ [M'],T'),⟨?_,hT',fun x hx=>?_,ordR_merge hoDT h1⟩,by simp only[List.length_cons];omega,⟨by simp;omega,by simp;omega⟩,by simp⟩
              · refine List.Perm.trans ?_ hp
                rw[e]
                simp only[List.flatten_append,List.flatten_cons,List.flatten_nil,List.append_nil,List.append_assoc]
                refine List.Perm.append_left _ ?_
                rw[← List.append_assoc r]
                exact List.Perm.append_right _ h1
              · rcases List.mem_append.1 hx with hx | hx
                · exact hD x hx
                · simp only[List.mem_singleton] at hx
                  subst hx
                  exact ⟨h3,by omega⟩
            · have g : ¬ (((D.flatten.length + 2 * bs : Nat) : Int) ≤ N):=by omega
              rcases runs_less T (by omega) hT (by omega) with ⟨k1,k2⟩ | ⟨r,s,rfl,hr,hs,hrl,hsl⟩
              · have g2 : ¬ (((D.flatten.length + bs : Nat) : Int) < N):=by omega
                simp (disch:=omega) only[g,ebs,g2,wrap_i64,↓evPre,↓evPreV,evPost,evPostV,evR,evU,seval]
                obtain ⟨R',hR',hoR',hRf⟩ : ∃ R',RunsOf lt (2 * bs) R' ∧ OrdR ord R' ∧ R'.flatten = D.flatten ++ T.flatten:=by
                  by_cases h0 : T.flatten.length = 0
                  · rw[List.length_eq_zero_iff.1 h0]
                    exact ⟨D ++ [],runs_full (by omega) D [] hD trivial,by rw[List.append_nil];exact (List.pairwise_append.1 hoDT).1,by simp⟩
                  · exact ⟨D ++ [T.flatten],runs_full (by omega) D [T.flatten] hD ⟨k2,by omega,by omega⟩,ordR_rest hoDT,by simp⟩
                exact ⟨(2 * bs,R'),⟨by simp only;rw[hRf];exact hp,hR',hoR',by simp only;omega,by simp only;omega⟩,by simp only;omega,by simp only;omega,by simp only;rw[hRf]⟩
              · simp only[List.flatten_cons,List.flatten_nil,List.append_nil,List.length_append] at hlen
                have g2 : (((D.flatten.length + bs : Nat) : Int) < N):=by omega
                simp (disch:=omega) only[g,ebs,g2,wrap_i64,↓evPre,↓evPreV,evPost,evPostV,evR,evU,seval]
                have e : D.flatten ++ [r,s].flatten = D.flatten ++ r ++ s ++ []:=by simp
                rw[e]
                have okrs : ∀ x ∈ D.flatten ++ r ++ s ++ [],ok x:=by rw[← e];exact okT
                refine (symAll hc ho (r.length + s.length) D.flatten r s [] S id ver D.flatten.length (D.flatten.length + bs) N N (Nat.le_refl _) hid (fun x hx=>hokw x (okrs x hx)) (fun x hx=>okrs x (by simp [hx])) (fun x hx=>okrs x (by simp [hx])) rfl (by omega) (by omega) (by simp only[List.length_append,List.length_nil];omega) (by omega) hr hs (by omega) (by omega) (ordR_two hoDT)).mono ?_
                rintro v S' ⟨rfl,M',h1,h3,rfl⟩
                have hl':=h1.length_eq
                simp only[List.length_append] at hl'
                refine ⟨(2 * bs,D ++ [M']),⟨?_,runs_full (by omega) D [M'] hD ⟨h3,by omega,by simp only[List.flatten_cons,List.flatten_nil,List.append_nil,List.length_append] at h2;omega⟩,by simpa using ordR_merge hoDT h1,by simp only;omega,by simp only;omega⟩,by simp only;omega,by simp only;omega,by simp⟩
                refine List.Perm.trans ?_ hp
                rw[e]
                simp only[List.flatten_append,List.flatten_cons,List.flatten_nil,List.append_nil,List.append_assoc]
                exact List.Perm.append_left _ h1
        · have g : ¬ ((bs : Int) < N):=by omega
          simp (disch:=omega) only[g,wrap_i64,↓evPre,↓evPreV,evPost,evPostV,evR,evU,seval]
          exact ⟨R.flatten,hp,runs_one (by omega) R hR (by omega),rfl⟩
end Go.Proofs.YtiihkfjbllpiaaaGreatDoor
