/- Schedule: numbers and texts compared, the order of a day's legs. -/
import Derived.Test.YtiihkfjbllpiaaaGreatDoorWSch6
import Derived.Test.YtiihkfjbllpiaaaGreatDoorWSSt4
import Derived.Test.YtiihkfjbllpiaaaGreatDoorWSm4
namespace Go.Proofs.YtiihkfjbllpiaaaGreatDoor
open Go Go.AL
set_option linter.unusedSectionVars false
variable [Go.AL.Mode] [Go.AL.LooseM]
set_option linter.unusedSimpArgs false
set_option linter.unusedVariables false
theorem isNaN_A (n : Int) (S : Store) : CallA Tryz.prog 109 [.int .i64 n] S fun r S'=>r = .bool false ∧ S' = S:=by
  refine CallA.keep Tryz.func109 c609 (Nat.le_of_ble_eq_true rfl) fun σ hσ=>?_
  simp only[a609,↓eA,eB,evU,seval]
theorem isNaNs_A (n : Txt) (S : Store) : CallA Tryz.prog 110 [.str n] S fun r S'=>r = .bool false ∧ S' = S:=by
  refine CallA.keep Tryz.func110 c610 (Nat.le_of_ble_eq_true rfl) fun σ hσ=>?_
  simp only[a610,↓eA,eB,evU,seval]
def cmpF (a b : Int) : Int:=if a < b then -1 else if b < a then 1 else 0
theorem compare_A (a b : Int) (S : Store) : CallA Tryz.prog 60 [.int .i64 a,.int .i64 b] S fun r S'=>r = .int .i64 (cmpF a b) ∧ S' = S:=by
  refine CallA.keep Tryz.func60 c560 (Nat.le_of_ble_eq_true rfl) fun σ hσ=>?_
  simp only[a560,↓eA,eB,evU,seval]
  refine (isNaN_A a S).then ?_
  simp only[↓eA,eB,evU,seval]
  refine (isNaN_A b S).then ?_
  by_cases h1 : a < b
  · simp only[cmpF,h1,if_true,↓eA,eB,evU,seval]
  by_cases h2 : b < a
  · simp only[cmpF,h1,h2,if_true,if_false,↓eA,eB,evU,seval]
  simp only[cmpF,h1,h2,if_false,↓eA,eB,evU,seval]
theorem bl_irr : ∀ a : Txt,Op.bytesLess a a = false
  | []=>rfl
  | a :: x=>by
    have:=bl_irr x
    simp [Op.bytesLess,this]
theorem bl_asymm : ∀ a b : Txt,Op.bytesLess a b = true → Op.bytesLess b a = false
  | [],[]=>fun h=>by cases h
  | [],_ :: _=>fun _=>rfl
  | _ :: _,[]=>fun h=>by cases h
  | a :: x,b :: y=>fun h=>by
    have ih:=bl_asymm x y
    simp only[Op.bytesLess,Bool.or_eq_true,decide_eq_true_eq,Bool.and_eq_true,beq_iff_eq] at h
    simp only[Op.bytesLess,Bool.or_eq_false_iff,decide_eq_false_iff_not,Bool.and_eq_false_iff]
    rcases h with h | ⟨rfl,h⟩
    · exact ⟨UInt8.not_lt.2 (UInt8.le_of_lt h),.inl (beq_false_of_ne (fun e=>UInt8.lt_irrefl a (e ▸ h)))⟩
    · exact ⟨UInt8.lt_irrefl a,.inr (ih h)⟩
theorem bl_tri : ∀ a b : Txt,Op.bytesLess a b = false → Op.bytesLess b a = false → a = b
  | [],[]=>fun _ _=>rfl
  | [],_ :: _=>fun h=>by cases h
  | _ :: _,[]=>fun _ h=>by cases h
  | a :: x,b :: y=>fun h1 h2=>by
    have ih:=bl_tri x y
    simp only[Op.bytesLess,Bool.or_eq_false_iff,decide_eq_false_iff_not,Bool.and_eq_false_iff,UInt8.not_lt] at h1 h2
    obtain ⟨p1,p2⟩:=h1
    obtain ⟨q1,q2⟩:=h2
    have hab : a = b:=UInt8.le_antisymm q1 p1
    subst hab
    rw[ih (by simpa using p2) (by simpa using q2)]
theorem bl_trans : ∀ a b c : Txt,Op.bytesLess a b = true → Op.bytesLess b c = true → Op.bytesLess a c = true
  | [],[],_=>fun h=>by cases h
  | _ :: _,[],_=>fun h=>by cases h
  | _,_ :: _,[]=>fun _ h=>by cases h
  | [],_ :: _,_ :: _=>fun _ _=>rfl
  | a :: x,b :: y,c :: z=>fun h1 h2=>by
    have ih:=bl_trans x y z
    simp only[Op.bytesLess,Bool.or_eq_true,decide_eq_true_eq,Bool.and_eq_true,beq_iff_eq] at h1 h2 ⊢
    rcases h1 with h1 | ⟨rfl,h1⟩
    · rcases h2 with h2 | ⟨rfl,h2⟩
      · exact .inl (UInt8.lt_trans h1 h2)
      · exact .inl h1
    · rcases h2 with h2 | ⟨rfl,h2⟩
      · exact .inl h2
      · exact .inr ⟨rfl,ih h1 h2⟩
def cmpS (a b : Txt) : Int:=if Op.bytesLess a b = true then -1 else if Op.bytesLess b a = true then 1 else 0
theorem compareS_A (a b : Txt) (S : Store) : CallA Tryz.prog 61 [.str a,.str b] S fun r S'=>r = .int .i64 (cmpS a b) ∧ S' = S:=by
  refine CallA.keep Tryz.func61 c561 (Nat.le_of_ble_eq_true rfl) fun σ hσ=>?_
  simp only[a561,↓eA,eB,evU,seval]
  refine (isNaNs_A a S).then ?_
  simp only[↓eA,eB,evU,seval]
  refine (isNaNs_A b S).then ?_
  cases h1 : Op.bytesLess a b with
  | true=>simp only[cmpS,h1,if_true,↓eA,eB,evU,seval]
  | false =>
    cases h2 : Op.bytesLess b a with
    | true =>
      have h3 : decide (a = b) = false:=decide_eq_false (fun h=>by rw[h,bl_irr] at h2;cases h2)
      simp only[cmpS,h1,h2,h3,if_true,Bool.false_eq_true,if_false,Bool.or_self,↓eA,eB,evU,seval]
    | false =>
      have h3 : decide (a = b) = true:=decide_eq_true (bl_tri a b h1 h2)
      simp only[cmpS,h1,h2,h3,Bool.false_eq_true,if_false,Bool.or_true,↓eA,eB,evU,seval]
theorem or3_A (a b c : Int) (S : Store) : CallA Tryz.prog 59 [.sl 1 [[.int .i64 a],[.int .i64 b],[.int .i64 c]]] S fun r S'=>r = .int .i64 (if a ≠ 0 then a else if b ≠ 0 then b else c) ∧ S' = S:=by
  refine CallA.keep Tryz.func59 c559 (Nat.le_of_ble_eq_true rfl) fun σ hσ=>?_
  simp only[a559,↓eA,eB,evU,seval]
  refine loopA (ι:=Nat) (fun k=>[(3,.int .i64 0),(6,.sl 1 [[.int .i64 a],[.int .i64 b],[.int .i64 c]]),(7,.int .i64 3),(8,.int .i64 k)]) (fun _=>S) (fun k=>k ≤ 3 ∧ (0 < k → a = 0) ∧ (1 < k → b = 0) ∧ (2 < k → c = 0)) (fun k=>3 - k) 0 ⟨by omega,fun h=>by omega,fun h=>by omega,fun h=>by omega⟩ ?_ rfl ?_
  · simp only[↓eA,eB,evU,seval]
    try rfl
  · rintro k ⟨hk,h1,h2,h3⟩
    match k,hk,h1,h2,h3 with
    | 0,hk,h1,h2,h3 =>
      simp (disch:=first|omega|(simp only[lenT];omega)) only[wrap_i64,↓eA,eB,evU,seval]
      exact ⟨fun h=>by rw[if_pos h],fun h=>⟨1,⟨by omega,fun _=>Decidable.not_not.1 h,fun h=>by omega,fun h=>by omega⟩,by omega,rfl⟩⟩
    | 1,hk,h1,h2,h3 =>
      simp (disch:=first|omega|(simp only[lenT];omega)) only[wrap_i64,↓eA,eB,evU,seval]
      have h0 : ¬ a ≠ 0:=fun h=>h (h1 (by omega))
      exact ⟨fun h=>by rw[if_neg h0,if_pos h],fun h=>⟨2,⟨by omega,fun _=>h1 (by omega),fun _=>Decidable.not_not.1 h,fun h=>by omega⟩,by omega,rfl⟩⟩
    | 2,hk,h1,h2,h3 =>
      simp (disch:=first|omega|(simp only[lenT];omega)) only[wrap_i64,↓eA,eB,evU,seval]
      have h0 : ¬ a ≠ 0:=fun h=>h (h1 (by omega))
      have h00 : ¬ b ≠ 0:=fun h=>h (h2 (by omega))
      exact ⟨fun h=>by rw[if_neg h0,if_neg h00],fun h=>⟨3,⟨by omega,fun _=>h1 (by omega),fun _=>h2 (by omega),fun _=>Decidable.not_not.1 h⟩,by omega,rfl⟩⟩
    | 3,hk,h1,h2,h3 =>
      have h33 : ¬ ((3 : Nat) : Int) < 3:=by omega
      have h0 : ¬ a ≠ 0:=fun h=>h (h1 (by omega))
      have h00 : ¬ b ≠ 0:=fun h=>h (h2 (by omega))
      simp (disch:=first|omega|(simp only[lenT];omega)) only[wrap_i64,h33,decide_false,↓eA,eB,evU,seval]
      rw[if_neg h0,if_neg h00,h3 (by omega)]
def ltD (a b : Dt) : Bool:=if a.dep = b.dep then (if a.c = b.c then decide (a.n < b.n) else Op.bytesLess a.c b.c) else decide (a.dep < b.dep)
theorem ltD_asymm {a b : Dt} (h : ltD a b = true) : ltD b a = false:=by
  unfold ltD at *
  by_cases h1 : a.dep = b.dep
  · rw[if_pos h1] at h
    rw[if_pos h1.symm]
    by_cases h2 : a.c = b.c
    · rw[if_pos h2] at h
      rw[if_pos h2.symm]
      have:=of_decide_eq_true h
      exact decide_eq_false (by omega)
    · rw[if_neg h2] at h
      rw[if_neg (fun h=>h2 h.symm)]
      exact bl_asymm _ _ h
  · rw[if_neg h1] at h
    rw[if_neg (fun h=>h1 h.symm)]
    have:=of_decide_eq_true h
    exact decide_eq_false (by omega)
theorem ltD_tri {a b : Dt} (h1 : ltD a b = false) (h2 : ltD b a = false) : a.dep = b.dep ∧ a.c = b.c ∧ a.n = b.n:=by
  unfold ltD at *
  by_cases e1 : a.dep = b.dep
  · rw[if_pos e1] at h1
    rw[if_pos e1.symm] at h2
    by_cases e2 : a.c = b.c
    · rw[if_pos e2] at h1
      rw[if_pos e2.symm] at h2
      have g1:=of_decide_eq_false h1
      have g2:=of_decide_eq_false h2
      exact ⟨e1,e2,by omega⟩
    · rw[if_neg e2] at h1
      rw[if_neg (fun h=>e2 h.symm)] at h2
      exact absurd (bl_tri _ _ h1 h2) e2
  · rw[if_neg e1] at h1
    rw[if_neg (fun h=>e1 h.symm)] at h2
    have g1:=of_decide_eq_false h1
    have g2:=of_decide_eq_false h2
    omega
theorem ltD_lt {a b c : Dt} (h1 : ltD a b = true) (h2 : ltD b c = true) : ltD a c = true:=by
  unfold ltD at *
  by_cases e1 : a.dep = b.dep
  · rw[if_pos e1] at h1
    by_cases e2 : b.dep = c.dep
    · rw[if_pos e2] at h2
      rw[if_pos (e1.trans e2)]
      by_cases e3 : a.c = b.c
      · rw[if_pos e3] at h1
        have g1:=of_decide_eq_true h1
        by_cases e4 : b.c = c.c
        · rw[if_pos e4] at h2
          rw[if_pos (e3.trans e4)]
          have g2:=of_decide_eq_true h2
          exact decide_eq_true (by omega)
        · rw[if_neg e4] at h2
          rw[if_neg (fun h=>e4 (e3.symm.trans h)),e3]
          exact h2
      · rw[if_neg e3] at h1
        by_cases e4 : b.c = c.c
        · rw[if_pos e4] at h2
          rw[if_neg (fun h=>e3 (h.trans e4.symm)),← e4]
          exact h1
        · rw[if_neg e4] at h2
          have g:=bl_trans _ _ _ h1 h2
          rw[if_neg (fun h=>by rw[h,bl_irr] at g;cases g)]
          exact g
    · rw[if_neg e2] at h2
      rw[if_neg (fun h=>e2 (e1.symm.trans h)),e1]
      exact h2
  · rw[if_neg e1] at h1
    have g1:=of_decide_eq_true h1
    by_cases e2 : b.dep = c.dep
    · rw[if_neg (fun h=>e1 (h.trans e2.symm)),← e2]
      exact h1
    · rw[if_neg e2] at h2
      have g2:=of_decide_eq_true h2
      rw[if_neg (by omega)]
      exact decide_eq_true (by omega)
theorem ltD_trans {x y z : Dt} (h1 : ltD y x = false) (h2 : ltD z y = false) : ltD z x = false:=by
  cases h : ltD z x with
  | false=>rfl
  | true =>
    cases g : ltD y z with
    | true=>rw[ltD_lt g h] at h1;cases h1
    | false =>
      obtain ⟨e1,e2,e3⟩:=ltD_tri g h2
      have : ltD y x = ltD z x:=by unfold ltD;rw[e1,e2,e3]
      rw[this,h] at h1
      cases h1
def hdS (v : Option V) : Txt:=match v with
  | some (.str s)=>s
  | _=>[]
def hdI (v : Option V) : Int:=match v with
  | some (.int _ n)=>n
  | _=>0
def dtO (r : List V) : Dt:=⟨hdS r[0]?,hdI r[1]?,hdI r[2]?,hdS r[3]?,hdS r[4]?,hdI r[5]?,hdI r[6]?,hdS r[7]?⟩
theorem dtO_R (x : Dt) : dtO (dtR x) = x:=rfl
def okD (r : List V) : Prop:=∃ x : Dt,r = dtR x
def ltRow (x y : List V) : Bool:=ltD (dtO x) (dtO y)
theorem dayCmp_A (x y : Dt) (S : Store) : CallA Tryz.prog 58 [.agg (dtR x),.agg (dtR y)] S fun r S'=>(∃ n : Int,r = .int .i64 n ∧ (n < 0 ↔ ltD x y = true)) ∧ S' = S:=by
  refine CallA.withNeat Tryz.func58 c558 fun hn=>?_
  refine CallA.fin Tryz.func58 c558 (Nat.le_of_ble_eq_true rfl) fun σ hσ=>?_
  simp (disch:=first|omega|(simp only[lenT];omega)) only[a558,dtR,evSt,↓eA,eB,evU,seval]
  refine exD.intro (compare_A x.dep y.dep _) ?_
  simp (disch:=first|omega|(simp only[lenT];omega)) only[evSt,↓eA,eB,evU,seval]
  refine exD.intro (compareS_A x.c y.c _) ?_
  simp (disch:=first|omega|(simp only[lenT];omega)) only[evSt,↓eA,eB,evU,seval]
  refine (compare_A x.n y.n _).then ?_
  simp (disch:=first|omega|(simp only[lenT];omega)) only[evSt,↓eA,eB,evU,seval]
  refine (or3_A _ _ _ _).then ?_
  simp (disch:=first|omega|(simp only[lenT];omega)) only[evSt,↓eA,eB,evU,seval]
  refine ⟨_,S,hn.self,.imm rfl,Nat.le_refl _,⟨_,rfl,?_⟩,rfl⟩
  unfold ltD cmpF cmpS
  by_cases h1 : x.dep < y.dep
  · have h2 : ¬ x.dep = y.dep:=by omega
    simp [h1,h2]
  by_cases h3 : y.dep < x.dep
  · have h2 : ¬ x.dep = y.dep:=by omega
    simp [h1,h2,h3]
  have h2 : x.dep = y.dep:=by omega
  by_cases h4 : x.c = y.c
  · have h5:=bl_irr y.c
    by_cases h6 : x.n < y.n
    · simp [h2,h4,h5,h6]
    · by_cases h7 : y.n < x.n
      · simp [h2,h4,h5,h6,h7]
      · simp [h2,h4,h5,h6,h7]
  · cases h5 : Op.bytesLess x.c y.c with
    | true=>simp [h2,h4,h5]
    | false =>
      cases h6 : Op.bytesLess y.c x.c with
      | true=>simp [h2,h4,h5,h6]
      | false=>exact absurd (bl_tri _ _ h5 h6) h4
theorem dayCmps : Cmps 58 [] [] okD ltRow (fun _ _=>True):=by
  rintro _ _ S ⟨x,rfl⟩ ⟨y,rfl⟩ _
  exact dayCmp_A x y S
theorem dayOrds : Ords okD ltRow where
  asymm:=by
    rintro _ _ ⟨x,rfl⟩ ⟨y,rfl⟩ h
    exact ltD_asymm h
  trans:=by
    rintro _ _ _ ⟨x,rfl⟩ ⟨y,rfl⟩ ⟨z,rfl⟩ h1 h2
    exact ltD_trans h1 h2
def SrtD (L : List Dt) : Prop:=L.Pairwise fun a b=>ltD b a = false
theorem okD_all {M : List (List V)} (h : ∀ r ∈ M,okD r) : M = (M.map dtO).map dtR:=by
  induction M with
  | nil=>rfl
  | cons r M ih =>
    obtain ⟨x,rfl⟩:=h r (.head _)
    rw[List.map_cons,List.map_cons,dtO_R,← ih fun r hr=>h r (.tail _ hr)]
theorem sortDt_A (L : List Dt) (S : Store) (v : Nat) (hl : L.length ≤ 1000000) : CallA Tryz.prog 57 [.msl S.length v 0 L.length,.func 58 [] []] (S ++ [⟨v,some (.arr 45 8 (L.map dtR))⟩]) fun r S'=>r = .tup [] ∧ ∃ M : List Dt,M.Perm L ∧ SrtD M ∧ S' = S ++ [⟨v,some (.arr 45 8 (M.map dtR))⟩]:=by
  refine CallA.keep Tryz.func57 c557 (Nat.le_of_ble_eq_true rfl) fun σ hσ=>?_
  simp (disch:=first|omega|(simp only[lenT];omega)) only[a557,evSt,↓eA,eB,evU,seval]
  have h1 : ∀ rows' : List (List V),rset (S ++ [⟨v,some (.arr 45 8 (L.map dtR))⟩]) S.length v rows' = S ++ [⟨v,some (.arr 45 8 rows')⟩]:=fun rows'=>by simp [rset]
  have hokL : ∀ r ∈ L.map dtR,okD r:=fun r hr=>by obtain ⟨x,_,rfl⟩:=List.mem_map.1 hr;exact ⟨x,rfl⟩
  have:=stable_A dayCmps dayOrds (L.map dtR) (S ++ [⟨v,some (.arr 45 8 (L.map dtR))⟩]) S.length v L.length (by simp) (fun r hr=>by obtain ⟨x,rfl⟩:=hr;exact ⟨rfl,rfl⟩) hokL (by simp) (by omega) (List.pairwise_of_forall fun _ _=>trivial)
  rw[h1] at this
  refine this.mono ?_
  rintro r S' ⟨rfl,M',h2,h3,rfl⟩
  have hM:=okD_all (M:=M') fun r hr=>hokL r (h2.mem_iff.1 hr)
  have hp : (M'.map dtO).Perm L:=by
    have:=h2.map dtO
    rwa [List.map_map,show (dtO ∘ dtR) = id from funext dtO_R,List.map_id] at this
  simp only[h1,↓eA,eB,evU,seval]
  refine ⟨M'.map dtO,hp,List.pairwise_map.2 (h3.imp fun h=>h),?_⟩
  rw[← hM]
end Go.Proofs.YtiihkfjbllpiaaaGreatDoor
/- Schedule: the legs of a day. -/
namespace Go.Proofs.YtiihkfjbllpiaaaGreatDoor
open Go Go.AL
set_option linter.unusedSectionVars false
variable [Go.AL.Mode] [Go.AL.LooseM]
set_option linter.unusedSimpArgs false
set_option linter.unusedVariables false
theorem fl_ord {p : Pls} {x : Fl} {T : Int → Txt} (h : flErr p x T = []) (d : Int) (hd : hasF x.p d = true) : ordL none (legsF p x d) = true:=by
  unfold flErr at h
  split at h
  · simp at h
  split at h
  · unfold dayErr at h
    split at h
    · simp at h
    · rename_i hf
      have:=List.find?_eq_none.1 hf d (has_days hd)
      simpa [badDay] using this
  · rename_i hne
    exact absurd h hne
theorem tt_fl {p : Pls} {l : List Fl} {T : Int → Txt} (h : ttErrs p l T l.length = []) : ∀ x ∈ l,flErr p x T = []:=by
  have all : ∀ k,ttErrs p l T k = [] → ∀ i x,i < k → l[i]? = some x → flErr p x T = []:=by
    intro k
    induction k with
    | zero=>intro _ i x hi;omega
    | succ k ih =>
      intro he i x hi hx
      rw[ttErrs] at he
      obtain ⟨e1,e2⟩:=List.append_eq_nil_iff.1 he
      by_cases hik : i = k
      · subst hik
        rw[hx] at e2
        exact List.map_eq_nil_iff.1 (List.append_eq_nil_iff.1 e2).1
      · exact ih e1 i x (by omega) hx
  intro x hx
  obtain ⟨i,hi⟩:=List.getElem?_of_mem hx
  exact all l.length h i x (List.getElem?_eq_some_iff.1 hi).1 hi
structure TtD (p : Pls) (l : List Fl) : Prop where
  ok : TtOk p l
  ord : ∀ x ∈ l,∀ d,hasF x.p d = true → ordL none (legsF p x d) = true
theorem ttD {p : Pls} {l : List Fl} {T : Int → Txt} (h : ttF p l T = []) : TtD p l:=⟨ttErrs_ok h,fun x hx d hd=>fl_ord (tt_fl h x hx) d hd⟩
theorem ordL_dep : ∀ (L : List Dt) (b : Option Int),ordL b L = true → (∀ t,b = some t → ∀ d ∈ L,t ≤ d.dep) ∧ L.Pairwise fun a c=>a.dep < c.dep
  | [],_,_=>⟨fun _ _ d hd=>(by cases hd),List.Pairwise.nil⟩
  | a :: L,b,h=>by
    simp only[ordL,Bool.and_eq_true,Bool.not_eq_true',decide_eq_false_iff_not] at h
    obtain ⟨h1,h2,h3⟩:=h
    obtain ⟨g1,g2⟩:=ordL_dep L (some a.arr) h3
    have g3:=g1 a.arr rfl
    refine ⟨fun t ht d hd=>?_,List.pairwise_cons.2 ⟨fun d hd=>by have:=g3 d hd;omega,g2⟩⟩
    subst ht
    simp only[Bool.not_eq_true',decide_eq_false_iff_not] at h2
    rcases List.mem_cons.1 hd with rfl | hd
    · omega
    · have:=g3 d hd
      omega
theorem pw_eq {L : List Dt} (h : L.Pairwise fun a c=>a.dep < c.dep) {a b : Dt} (ha : a ∈ L) (hb : b ∈ L) (he : a.dep = b.dep) : a = b:=by
  induction L with
  | nil=>cases ha
  | cons x L ih =>
    obtain ⟨h1,h2⟩:=List.pairwise_cons.1 h
    rcases List.mem_cons.1 ha with ha | ha
    · rcases List.mem_cons.1 hb with hb | hb
      · rw[ha,hb]
      · have:=h1 b hb
        rw[ha] at he
        omega
    · rcases List.mem_cons.1 hb with hb | hb
      · have:=h1 a ha
        rw[hb] at he
        omega
      · exact ih h2 ha hb
def allL (p : Pls) (l : List Fl) (day : Int) : List Dt:=l.flatMap fun x=>(legsD p x day).1
def DayS (p : Pls) (l : List Fl) (day : Int) (L : List Dt) : Prop:=SrtD L ∧ L.Perm (allL p l day)
theorem allL_step (p : Pls) {l : List Fl} (day : Int) {k : Nat} {x : Fl} (h : l[k]? = some x) : allL p (l.take (k + 1)) day = allL p (l.take k) day ++ (legsD p x day).1:=by
  unfold allL
  rw[take_at h,List.flatMap_append]
  simp
theorem legsD_len (p : Pls) (x : Fl) (day : Int) : (legsD p x day).1.length ≤ x.legs.length:=by
  unfold legsD
  split<;>simp [legsF]
theorem allL_len (p : Pls) {l : List Fl} (hl : FOk l) (day : Int) : ∀ k,(allL p (l.take k) day).length ≤ 300 * k
  | 0=>by simp [allL]
  | k + 1=>by
    have ih:=allL_len p hl day k
    cases hc : l[k]? with
    | none =>
      rw[List.take_of_length_le (by have:=List.getElem?_eq_none_iff.1 hc;omega)]
      rw[List.take_of_length_le (by have:=List.getElem?_eq_none_iff.1 hc;omega)] at ih
      omega
    | some x =>
      have h1:=legsD_len p x day
      have h2:=hl.h2 x (List.mem_of_getElem? hc)
      rw[allL_step p day hc,List.length_append]
      omega
theorem allL_mem {p : Pls} {l : List Fl} {day : Int} {a : Dt} (h : a ∈ allL p l day) : ∃ x ∈ l,hasF x.p day = true ∧ a ∈ legsF p x day:=by
  obtain ⟨x,hx,ha⟩:=List.mem_flatMap.1 h
  refine ⟨x,hx,?_⟩
  unfold legsD at ha
  split at ha
  · exact ⟨by assumption,ha⟩
  · cases ha
theorem leg_of {p : Pls} {x : Fl} {day : Int} {a : Dt} (h : a ∈ legsF p x day) : a.c = x.c ∧ a.n = x.n ∧ a.day = day:=by
  obtain ⟨l,_,rfl⟩:=List.mem_map.1 h
  exact ⟨rfl,rfl,rfl⟩
theorem leg_unique {p : Pls} {l : List Fl} (h : TtD p l) {day : Int} {a b : Dt} (ha : a ∈ allL p l day) (hb : b ∈ allL p l day) (h1 : a.dep = b.dep) (h2 : a.c = b.c) (h3 : a.n = b.n) : a = b:=by
  obtain ⟨x,hx,hdx,hax⟩:=allL_mem ha
  obtain ⟨y,hy,hdy,hby⟩:=allL_mem hb
  obtain ⟨a1,a2,_⟩:=leg_of hax
  obtain ⟨b1,b2,_⟩:=leg_of hby
  have e1:=tt_on h.ok hx hdx
  have e2:=tt_on h.ok hy hdy
  rw[← a1,← a2,h2,h3,b1,b2,e2] at e1
  cases e1
  exact pw_eq (ordL_dep _ none (h.ord x hx day hdx)).2 hax hby h1
theorem day_unique {p : Pls} {l : List Fl} (h : TtD p l) {day : Int} {L M : List Dt} (hL : DayS p l day L) (hM : DayS p l day M) : L = M:=by
  refine List.Perm.eq_of_pairwise (fun a b ha hb g1 g2=>?_) hL.1 hM.1 (hL.2.trans hM.2.symm)
  obtain ⟨e1,e2,e3⟩:=ltD_tri g2 g1
  exact leg_unique h (hL.2.mem_iff.1 ha) (hM.2.mem_iff.1 hb) e1 e2 e3
set_option maxHeartbeats 4000000 in
theorem day_A (p : Pls) (hp : POk p) (l : List Fl) (hl : FOk l) (day : Int) (S : Store) : CallA Tryz.prog 17 [plV p,.sl 6 (l.map flR),.int .i64 day] S fun r S'=>∃ L : List Dt,r = .sl 8 (L.map dtR) ∧ DayS p l day L ∧ S' = S:=by
  refine CallA.withNeat Tryz.func17 c517 fun hn=>?_
  refine (CallA.fin Tryz.func17 c517 (R:=fun r S'=>(∃ L : List Dt,r = .sl 8 (L.map dtR) ∧ DayS p l day L) ∧ S' = S) (Nat.le_of_ble_eq_true rfl) fun σ hσ=>?_).mono fun r S' ⟨⟨L,h1,h2⟩,h3⟩=>⟨L,h1,h2,h3⟩
  have hl1:=hl.h1
  simp (disch:=first|omega|(simp only[lenT];omega)) only[a517,plV,evSt,↓eA,eB,evU,seval]
  refine LoopA.ghost 7 0 45 8 rfl ?_
  refine loopF (ι:=Nat × Nat) (fun i=>[(1,.sl 6 (l.map flR)),(2,.int .i64 day),(3,.cptr [.sl 5 (p.1.map aptR),.sl 3 (p.2.map dstR)]),(7,.msl S.length i.2 0 (allL p (l.take i.1) day).length),(12,.sl 6 (l.map flR)),(13,.int .i64 l.length),(14,.int .i64 (i.1 : Nat))])
    (fun i=>S ++ [⟨i.2,some (.arr 45 8 ((allL p (l.take i.1) day).map dtR))⟩]) (fun i=>i.1 ≤ l.length) (fun i=>l.length - i.1) (fun i hi=>by rw[hσ];simp) (0,0) (Nat.zero_le _) (.inl ⟨?_,?_⟩) ?_
  · simp [allL,sub,Env.get]
  · simp [allL]
  rintro ⟨k,v⟩ hk
  simp only at hk ⊢
  have hal:=allL_len p hl day k
  cases hc : l[k]? with
  | none =>
    have hge:=List.getElem?_eq_none_iff.1 hc
    have hlt : ¬ ((k : Int) < l.length):=by omega
    rw[List.take_of_length_le hge] at hal ⊢
    simp (disch:=first|omega|(simp only[lenT];omega)) only[dF hlt,evSt,↓eA,eB,evU,seval]
    refine (sortDt_A (allL p l day) S v (by omega)).mono ?_
    rintro _ S2 ⟨rfl,M,hp1,hs1,hS2⟩
    rw[hS2]
    simp (disch:=first|omega|(simp only[lenT];omega)) only[evSt,↓eA,eB,evU,seval]
    exact ⟨_,S,hn.fgt _,.sl (t:=45) (Nat.le_refl _) (by rw[ob_app0,ob_head]) (by simp [hp1.length_eq]) (dtR_imm M),Nat.le_refl _,⟨M,rfl,hs1,hp1⟩,rfl⟩
  | some x =>
    have hlt':=(List.getElem?_eq_some_iff.1 hc).1
    have hlt : ((k : Int) < l.length):=by omega
    have hk1 : (k : Int) + 1 = ((k + 1 : Nat) : Int):=by omega
    have hst:=allL_step p day hc
    have hxl:=hl.h2 x (List.mem_of_getElem? hc)
    have hll:=legsD_len p x day
    have hh:=fun S=>has_A x.p day S
    have hg:=fun S=>legs_A p hp x day (by omega) S
    have him:=dtR_imm (allL p (l.take (k + 1)) day)
    simp only[pdR] at hh
    simp only[plV,flR] at hg
    simp (disch:=first|omega|(simp only[lenT];omega)) only[dT hlt,hc,flR,evSt,↓eA,eB,evU,seval]
    refine (hh _).then ?_
    cases hd : hasF x.p day with
    | false =>
      have h0 : (legsD p x day).1 = []:=by simp [legsD,hd]
      rw[h0,List.append_nil] at hst
      rw[← hst]
      simp (disch:=first|omega|(simp only[lenT];omega)) only[wrap_i64,hk1,evSt,↓eA,eB,evU,seval]
      refine ⟨(k + 1,v),by simp only;omega,by simp only;omega,back_under ?_ ?_ (by simp [V.under,V.allUnder])⟩
      · exact hn.fgtL (L:=[_,_]) (L1:=[_]) ⟨rfl,⟨_,rfl,.imm him⟩,trivial⟩
      · simp only[↓eA,eB,evU,seval]
        try rfl
    | true =>
      simp (disch:=first|omega|(simp only[lenT];omega)) only[flR,evSt,↓eA,eB,evU,seval]
      refine (hg _).then ?_
      have hle : (allL p (l.take k) day).length + (legsD p x day).1.length = (allL p (l.take (k + 1)) day).length:=by rw[hst,List.length_append]
      have hap : (allL p (l.take k) day).map dtR ++ (legsD p x day).1.map dtR = (allL p (l.take (k + 1)) day).map dtR:=by rw[hst,List.map_append]
      simp (disch:=first|omega|(simp only[lenT];omega)) only[wrap_i64,hk1,hle,hap,evSt,↓eA,eB,evU,seval]
      refine ⟨by unfold roomA;omega,(k + 1,v + 1),by simp only;omega,by simp only;omega,back_under ?_ ?_ (by simp [V.under,V.allUnder])⟩
      · exact hn.fgtL (L:=[_,_]) (L1:=[_]) ⟨rfl,⟨_,rfl,.imm him⟩,trivial⟩
      · simp only[↓eA,eB,evU,seval]
        try rfl
theorem rbef_A (x y : Dt) (S : Store) : CallA Tryz.prog 116 [.agg (dtR x),.agg (dtR y)] S fun r S'=>r = .bool (ltD x y) ∧ S' = S:=by
  refine CallA.keep Tryz.func116 c616 (Nat.le_of_ble_eq_true rfl) fun σ hσ=>?_
  unfold ltD
  by_cases h1 : x.dep = y.dep
  · by_cases h2 : x.c = y.c
    · simp (disch:=first|omega|(simp only[lenT];omega)) only[a616,dtR,dT h1,dT h2,if_pos h1,if_pos h2,evSt,↓eA,eB,evU,seval]
    · simp (disch:=first|omega|(simp only[lenT];omega)) only[a616,dtR,dT h1,dF h2,if_pos h1,if_neg h2,evSt,↓eA,eB,evU,seval]
  · simp (disch:=first|omega|(simp only[lenT];omega)) only[a616,dtR,dF h1,if_neg h1,evSt,↓eA,eB,evU,seval]
theorem srt_at {L : List Dt} (h : SrtD L) {i j : Nat} {a b : Dt} (hij : i < j) (ha : L[i]? = some a) (hb : L[j]? = some b) : ltD b a = false:=by
  obtain ⟨h1,rfl⟩:=List.getElem?_eq_some_iff.1 ha
  obtain ⟨h2,rfl⟩:=List.getElem?_eq_some_iff.1 hb
  exact List.pairwise_iff_getElem.1 h i j h1 h2 hij
theorem ins_ok {L : List Dt} {x : Dt} {k : Nat} (h1 : ∀ y ∈ L.drop k,ltD x y = true) (h2 : k = 0 ∨ ∃ y,L[k - 1]? = some y ∧ ltD x y = false) : (L.take k ++ x :: L.drop k).Perm (x :: L) ∧ (SrtD L → SrtD (L.take k ++ x :: L.drop k)):=by
  refine ⟨?_,fun hs=>?_⟩
  · have:=List.perm_middle (a:=x) (l₁:=L.take k) (l₂:=L.drop k)
    rwa [List.take_append_drop] at this
  · have hs' : (L.take k ++ L.drop k).Pairwise fun a b=>ltD b a = false:=by rw[List.take_append_drop];exact hs
    unfold SrtD
    rw[List.pairwise_append] at hs' ⊢
    obtain ⟨a,b,c⟩:=hs'
    refine ⟨a,List.pairwise_cons.2 ⟨fun y hy=>ltD_asymm (h1 y hy),b⟩,fun u hu w hw=>?_⟩
    rcases List.mem_cons.1 hw with rfl | hw
    · rcases h2 with rfl | ⟨y,hy,hxy⟩
      · simp at hu
      · obtain ⟨j,hj⟩:=List.getElem?_of_mem hu
        rw[List.getElem?_take] at hj
        split at hj
        · by_cases hjk : j = k - 1
          · subst hjk
            rw[hy] at hj
            cases hj
            exact hxy
          · exact ltD_trans (srt_at hs (by omega) hj hy) hxy
        · cases hj
    · exact c u hu w hw
def insS (L : List Dt) (x : Dt) (M : List Dt) : Prop:=M.Perm (x :: L) ∧ (SrtD L → SrtD M)
set_option maxHeartbeats 4000000 in
theorem rins_A (L : List Dt) (x : Dt) (hl : L.length ≤ 1000000) (S : Store) : CallA Tryz.prog 70 [.sl 8 (L.map dtR),.agg (dtR x)] S fun r S'=>∃ M : List Dt,r = .sl 8 (M.map dtR) ∧ insS L x M ∧ S' = S:=by
  refine CallA.withNeat Tryz.func70 c570 fun hn=>?_
  refine (CallA.fin Tryz.func70 c570 (R:=fun r S'=>(∃ M : List Dt,r = .sl 8 (M.map dtR) ∧ insS L x M) ∧ S' = S) (Nat.le_of_ble_eq_true rfl) fun σ hσ=>?_).mono fun r S' ⟨⟨L,h1,h2⟩,h3⟩=>⟨L,h1,h2,h3⟩
  have hb:=fun y S=>rbef_A x y S
  simp only[dtR] at hb
  simp (disch:=first|omega|(simp only[lenT];omega)) only[a570,dtR,evSt,↓eA,eB,evU,seval]
  refine loopA (ι:=Nat) (fun k=>[(0,.sl 8 (L.map dtR)),(3,.cptr (dtR x)),(5,.int .i64 (k : Nat))]) (fun _=>S) (fun k=>k ≤ L.length ∧ ∀ y ∈ L.drop k,ltD x y = true) (fun k=>k) L.length ⟨Nat.le_refl _,by simp⟩ ?_ rfl ?_
  · simp only[dtR,↓eA,eB,evU,seval]
    try rfl
  rintro k ⟨hk,hall⟩
  have hcd : (((k : Nat) : Int) ≤ (L.length : Nat)) = True:=eq_true (by omega)
  have hlen : (L.take k).length + 1 + (L.drop k).length = (L.take k ++ x :: L.drop k).length:=by simp;omega
  have hap : (L.take k).map dtR ++ [dtR x] ++ (L.drop k).map dtR = (L.take k ++ x :: L.drop k).map dtR:=by simp
  have htl : (L.take k).length ≤ k:=by simp;omega
  have hdl : (L.drop k).length ≤ L.length:=by simp
  have hcd2 : (((L.length : Nat) : Int) ≤ (L.length : Nat)) = True:=eq_true (by omega)
  have htd : (L.drop k).take (L.length - k) = L.drop k:=List.take_of_length_le (by simp)
  have him:=dtR_imm (L.take k ++ x :: L.drop k)
  rw[← hap] at him
  simp only[dtR] at hap him
  by_cases h0 : k = 0
  · subst h0
    have hS:=ins_ok (k:=0) hall (.inl rfl)
    have h00 : ¬ ((0 : Int) < ((0 : Nat) : Int)):=by omega
    simp (disch:=first|omega|(simp only[lenT];omega)) only[dtR,dF h00,hcd,hcd2,List.take_length,if_true,evSt,↓eA,eB,evU,seval]
    refine ⟨by unfold roomA;omega,by unfold roomA;omega,by unfold roomA;omega,?_⟩
    simp only[List.take_zero,List.drop_zero,List.map_nil,List.nil_append,List.singleton_append,List.map_cons] at hS him
    exact ⟨_,S,hn.fgt _,.sl (t:=45) (Nat.le_refl _) (by rw[ob_app0,ob_head]) (by simp;omega) him,Nat.le_refl _,⟨x :: L,by rw[List.map_cons];rfl,hS⟩,rfl⟩
  · obtain ⟨y,hy⟩ : ∃ y,L[k - 1]? = some y:=⟨_,List.getElem?_eq_getElem (by omega)⟩
    have h01 : ((0 : Int) < (k : Int)):=by omega
    have hk1 : (k : Int) - 1 = ((k - 1 : Nat) : Int):=by omega
    simp (disch:=first|omega|(simp only[lenT];omega)) only[dtR,dT h01,hk1,hy,wrap_i64,evSt,↓eA,eB,evU,seval]
    refine (hb y _).then ?_
    cases hd : ltD x y with
    | true =>
      simp (disch:=first|omega|(simp only[lenT];omega)) only[hk1,wrap_i64,evSt,↓eA,eB,evU,seval]
      refine ⟨k - 1,⟨by omega,fun z hz=>?_⟩,by omega,rfl⟩
      rw[drop_at hy,show k - 1 + 1 = k by omega] at hz
      rcases List.mem_cons.1 hz with rfl | hz
      · exact hd
      · exact hall z hz
    | false =>
      have hS:=ins_ok hall (.inr ⟨y,hy,hd⟩)
      simp (disch:=first|omega|(simp only[lenT];omega)) only[dtR,hcd,hcd2,htd,if_true,evSt,↓eA,eB,evU,seval]
      refine ⟨by unfold roomA;omega,by unfold roomA;omega,by simp,by unfold roomA;omega,?_⟩
      exact ⟨_,S,hn.fgt _,.sl (t:=45) (Nat.le_refl _) (by rw[ob_app0,ob_head]) (by simp;omega) him,Nat.le_refl _,⟨L.take k ++ x :: L.drop k,by rw[hap],hS⟩,rfl⟩
end Go.Proofs.YtiihkfjbllpiaaaGreatDoor
/- Schedule: the reference's day;flights found,found or not. -/
namespace Go.Proofs.YtiihkfjbllpiaaaGreatDoor
open Go Go.AL
set_option linter.unusedSectionVars false
variable [Go.AL.Mode] [Go.AL.LooseM]
set_option linter.unusedSimpArgs false
set_option linter.unusedVariables false
theorem rinsV_A (v : V) (L : List Dt) (hv : (v = .nilSl ∧ L = []) ∨ v = .sl 8 (L.map dtR)) (x : Dt) (hl : L.length ≤ 1000000) (S : Store) : CallA Tryz.prog 70 [v,.agg (dtR x)] S fun r S'=>∃ M : List Dt,r = .sl 8 (M.map dtR) ∧ insS L x M ∧ S' = S:=by
  rcases hv with ⟨rfl,rfl⟩ | rfl
  · exact (rins_A [] x (by simp) S).wk ⟨.nil 8,.refl _,trivial⟩
  · exact rins_A L x hl S
set_option maxHeartbeats 4000000 in
theorem rday_A (p : Pls) (hp : POk p) (l : List Fl) (hl : FOk l) (day : Int) (S : Store) : CallA Tryz.prog 25 [plV p,.sl 6 (l.map flR),.int .i64 day] S fun r S'=>∃ L : List Dt,r = .sl 8 (L.map dtR) ∧ DayS p l day L ∧ S' = S:=by
  have key : CallA Tryz.prog 25 [plV p,.sl 6 (l.map flR),.int .i64 day] S fun r S'=>∃ L : List Dt,((r = .nilSl ∧ L = []) ∨ r = .sl 8 (L.map dtR)) ∧ DayS p l day L ∧ S' = S:=by
    refine CallA.keep Tryz.func25 c525 (Nat.le_of_ble_eq_true rfl) fun σ hσ=>?_
    have hl1:=hl.h1
    simp (disch:=first|omega|(simp only[lenT];omega)) only[a525,plV,evSt,↓eA,eB,evU,seval]
    refine loopA (ι:=Nat × V × List Dt) (fun i=>[(1,.sl 6 (l.map flR)),(2,.int .i64 day),(3,.cptr [.sl 5 (p.1.map aptR),.sl 3 (p.2.map dstR)]),(7,i.2.1),(8,.int .i64 (i.1 : Nat))]) (fun _=>S)
      (fun i=>i.1 ≤ l.length ∧ ((i.2.1 = .nilSl ∧ i.2.2 = []) ∨ i.2.1 = .sl 8 (i.2.2.map dtR)) ∧ SrtD i.2.2 ∧ i.2.2.Perm (allL p (l.take i.1) day)) (fun i=>l.length - i.1) (0,.nilSl,[]) ⟨Nat.zero_le _,.inl ⟨rfl,rfl⟩,.nil,by simp [allL]⟩ ?_ rfl ?_
    · simp only[↓eA,eB,evU,seval]
      try rfl
    rintro ⟨i,v,L⟩ ⟨hi,hv,hs,hp1⟩
    simp only at hi hv hs hp1 ⊢
    have hal:=allL_len p hl day i
    cases hc : l[i]? with
    | none =>
      have hge:=List.getElem?_eq_none_iff.1 hc
      have hlt : ¬ ((i : Int) < l.length):=by omega
      rw[List.take_of_length_le hge] at hp1
      simp (disch:=first|omega|(simp only[lenT];omega)) only[dF hlt,evSt,↓eA,eB,evU,seval]
      exact ⟨L,hv,hs,hp1⟩
    | some x =>
      have hlt':=(List.getElem?_eq_some_iff.1 hc).1
      have hlt : ((i : Int) < l.length):=by omega
      have hi1 : (i : Int) + 1 = ((i + 1 : Nat) : Int):=by omega
      have hst:=allL_step p day hc
      have hxl:=hl.h2 x (List.mem_of_getElem? hc)
      have hll:=legsD_len p x day
      have hg:=fun S=>rlegs_A p hp x day (by omega) S
      simp only[plV,flR] at hg
      simp (disch:=first|omega|(simp only[lenT];omega)) only[dT hlt,hc,flR,evSt,↓eA,eB,evU,seval]
      refine (hg _).then ?_
      generalize (legsD p x day).1 = ys at hst hll
      simp (disch:=first|omega|(simp only[lenT];omega)) only[evSt,↓eA,eB,evU,seval]
      refine loopA (ι:=Nat × V × List Dt) (fun k=>[(1,.sl 6 (l.map flR)),(2,.int .i64 day),(3,.cptr [.sl 5 (p.1.map aptR),.sl 3 (p.2.map dstR)]),(7,k.2.1),(8,.int .i64 (i : Nat)),(9,.sl 8 (ys.map dtR)),(11,.int .i64 (k.1 : Nat))]) (fun _=>S)
        (fun k=>k.1 ≤ ys.length ∧ ((k.2.1 = .nilSl ∧ k.2.2 = []) ∨ k.2.1 = .sl 8 (k.2.2.map dtR)) ∧ SrtD k.2.2 ∧ k.2.2.Perm (allL p (l.take i) day ++ ys.take k.1)) (fun k=>ys.length - k.1) (0,v,L) ⟨Nat.zero_le _,hv,hs,by simpa using hp1⟩ ?_ rfl ?_
      · simp only[↓eA,eB,evU,seval]
        try rfl
      clear hv hs hp1
      rintro ⟨k,v,L⟩ ⟨hk,hv,hs,hp1⟩
      simp only at hk hv hs hp1 ⊢
      cases hcy : ys[k]? with
      | none =>
        have hge:=List.getElem?_eq_none_iff.1 hcy
        have hltk : ¬ ((k : Int) < ys.length):=by omega
        rw[List.take_of_length_le hge,← hst] at hp1
        simp (disch:=first|omega|(simp only[lenT];omega)) only[dF hltk,wrap_i64,hi1,evSt,↓eA,eB,evU,seval]
        exact ⟨(i + 1,v,L),⟨by simp only;omega,hv,hs,hp1⟩,by simp only;omega,rfl,rfl⟩
      | some y =>
        have hltk':=(List.getElem?_eq_some_iff.1 hcy).1
        have hltk : ((k : Int) < ys.length):=by omega
        have hk1 : (k : Int) + 1 = ((k + 1 : Nat) : Int):=by omega
        have hLl:=hp1.length_eq
        rw[List.length_append,List.length_take] at hLl
        have hr:=fun S=>rinsV_A v L hv y (by omega) S
        simp only[dtR] at hr
        simp (disch:=first|omega|(simp only[lenT];omega)) only[dT hltk,hcy,dtR,evSt,↓eA,eB,evU,seval]
        refine (hr _).mono ?_
        rintro _ S2 ⟨M,rfl,⟨g1,g2⟩,hS2⟩
        rw[hS2]
        simp (disch:=first|omega|(simp only[lenT];omega)) only[wrap_i64,hk1,evSt,↓eA,eB,evU,seval]
        refine ⟨(k + 1,.sl 8 (M.map dtR),M),⟨by simp only;omega,.inr rfl,g2 hs,?_⟩,by simp only;omega,rfl,rfl⟩
        simp only
        rw[take_at hcy,← List.append_assoc]
        exact g1.trans ((hp1.cons y).trans (List.perm_append_singleton y _).symm)
  refine key.wkR fun r S' ⟨L,hv,hd,hS⟩=>⟨.sl 8 (L.map dtR),?_,L,rfl,hd,hS⟩
  rcases hv with ⟨rfl,rfl⟩ | rfl
  · exact .nil 8
  · exact .refl _
def z0 : Fl:=⟨[],0,⟨0,0,0⟩,[]⟩
def onV (o : Option Fl) : V:=.tup [.agg (flR (o.getD z0)),.bool o.isSome]
theorem onR_wk (o : Option Fl) : Wk (onR o) (onV o):=by
  cases o with
  | none=>exact Wk.tupL ⟨Wk.aggL ⟨.refl _,.refl _,.refl _,.refl _,.refl _,.nil 5,trivial⟩,.refl _,trivial⟩
  | some x=>exact .refl _
theorem onW_A (l : List Fl) (c : Txt) (n day : Int) (hl : l.length ≤ 1000000) (S : Store) : CallA Tryz.prog 19 [.sl 6 (l.map flR),.str c,.int .i64 n,.int .i64 day] S fun r S'=>r = onV (onL l c n day) ∧ S' = S :=
  (onC_A l c n day hl S).wkR fun r S' ⟨h1,h2⟩=>⟨_,by rw[h1];exact onR_wk _,rfl,h2⟩
theorem ronW_A (l : List Fl) (c : Txt) (n day : Int) (hl : l.length ≤ 1000000) (S : Store) : CallA Tryz.prog 20 [.sl 6 (l.map flR),.str c,.int .i64 n,.int .i64 day] S fun r S'=>r = onV (onL l c n day) ∧ S' = S :=
  (ron_A l c n day hl S).wkR fun r S' ⟨h1,h2⟩=>⟨_,by rw[h1];exact onR_wk _,rfl,h2⟩
theorem onL_legs {l : List Fl} (hl : FOk l) (c : Txt) (n day : Int) : ((onL l c n day).getD z0).legs.length ≤ 300:=by
  cases h : onL l c n day with
  | none=>simp [z0]
  | some x=>exact hl.h2 x (onL_mem h)
end Go.Proofs.YtiihkfjbllpiaaaGreatDoor
