/- Component: what the reference's look at rules and routings says. -/
import Derived.Test.YtanmnoipikdplaaGreatWCnc
import Derived.Test.YtanmnoipikdplaaGreatWCmdC
import Derived.Test.YtanmnoipikdplaaGreatWAlM
namespace Go.Proofs.YtanmnoipikdplaaGreat
open Go Go.AL
set_option linter.unusedSectionVars false
variable [Go.AL.Mode]
set_option linter.unusedSimpArgs false
set_option linter.unusedVariables false
def FR (r : List V) : Prop:=∃ (e : Int) (s : Txt),r = [.int .i64 e,.str s] ∧ s.length ≤ 40
theorem FR.imm {r : List V} (h : FR r) : r.length = 2 ∧ V.allImm r = true:=by
  obtain ⟨e,s,rfl,_⟩:=h
  exact ⟨rfl,rfl⟩
theorem fr_snoc {rows : List (List V)} {e : Int} {s : Txt} (h : ∀ r ∈ rows,FR r) (hs : s.length ≤ 40) : ∀ r ∈ rows ++ [[.int .i64 e,.str s]],FR r:=fun r hr=>by
  rcases List.mem_append.1 hr with hr | hr
  · exact h r hr
  · rw[List.mem_singleton] at hr
    exact ⟨e,s,hr,hs⟩
def txCb : Txt:=[99,111,109,98,105,110,101,32]
def txPc : Txt:=[112,101,114,99,101,110,116,32]
def txLk : Txt:=[108,105,110,107,32]
theorem add_dec (a : Txt) (n : Nat) (ha : a.length ≤ 20) : binV .add (.str a) (.str (decX n)) = some (.str (a ++ decX n)):=bs_add (by have:=decX_len n;unfold maxLen;omega)
theorem dec_le (a : Txt) (n : Nat) (ha : a.length ≤ 20) : (a ++ decX n).length ≤ 40:=by have:=decX_len n;rw[List.length_append];omega
set_option maxHeartbeats 4000000 in
set_option maxRecDepth 10000 in
theorem list21_A (l : List Int) (hl : l.length ≤ 1048576) (S : Store) : CallA Tryz.prog 90 [.sl 1 (l.map inR)] S fun v S'=>∃ rows : List (List V),v = .sl 2 rows ∧ (rows.length ≤ 2 * l.length ∧ (∀ r ∈ rows,FR r)) ∧ S' = S:=by
  refine CallA.withNeat Tryz.func90 c5042 fun hn=>?_
  refine (CallA.fin Tryz.func90 c5042 (R:=fun v S'=>(∃ rows : List (List V),v = .sl 2 rows ∧ (rows.length ≤ 2 * l.length ∧ (∀ r ∈ rows,FR r))) ∧ S' = S) (Nat.le_of_ble_eq_true rfl) fun σ hσ=>?_).mono fun r S' ⟨⟨L,h1,h2⟩,h3⟩=>⟨L,h1,h2,h3⟩
  simp (disch:=first|omega|(simp only[lenT];omega)) only[a5042,evSt,↓eA,eB,evU,seval]
  refine loopA (ι:=Nat × List (List V)) (fun i=>[(0,.sl 1 (l.map inR)),(3,accV S.length i.2),(4,.int .i64 (i.1 : Nat))]) (fun i=>S ++ accT 111 2 i.2)
    (fun i=>i.1 ≤ l.length ∧ i.2.length ≤ 2 * i.1 ∧ (∀ r ∈ i.2,FR r)) (fun i=>l.length - i.1) (0,[]) ⟨Nat.zero_le _,by simp,(fun r hr=>by cases hr)⟩ ?_ (by simp [accT]) ?_
  · simp only[accV_nil,↓eA,eB,evU,seval]
    try rfl
  rintro ⟨i,rows⟩ ⟨hi,hrl,hfr⟩
  simp only at hi hrl hfr ⊢
  cases hc : l[i]? with
  | none =>
    have hge:=List.getElem?_eq_none_iff.1 hc
    have hlt : ¬ ((i : Int) < l.length):=by omega
    have hil : i = l.length:=by omega
    simp (disch:=first|omega|(simp only[lenT];omega)) only[dF hlt,evSt,↓eA,eB,evU,seval]
    exact ⟨_,S,hn.fgt _,frz_acc (fun r hr=>(hfr r hr).imm),Nat.le_refl _,⟨rows,rfl,by omega,hfr⟩,rfl⟩
  | some x =>
  have hlt':=(List.getElem?_eq_some_iff.1 hc).1
  have hlt : ((i : Int) < l.length):=by omega
  have hi1 : (i : Int) + 1 = ((i + 1 : Nat) : Int):=by omega
  obtain ⟨at_,hadd,hat⟩ : ∃ at_ : Txt,binV .add (.str txCb) (.str (decX i)) = some (.str at_) ∧ at_.length ≤ 40:=⟨_,add_dec txCb i (by decide),dec_le txCb i (by decide)⟩
  simp only[txCb] at hadd
  simp (disch:=first|omega|(simp only[lenT];omega)) only[dT hlt,evSt,↓eA,eB,evU,seval]
  refine (decX_A i (by omega) _).then ?_
  simp (disch:=first|omega|(simp only[lenT];omega)) only[hadd,evSt,↓eA,eB,evU,seval]
  refine loopA (ι:=Nat × Bool) (fun k=>[(0,.sl 1 (l.map inR)),(3,accV S.length rows),(4,.int .i64 (i : Nat)),(5,.str at_),(6,.bool k.2),(7,.int .i64 (k.1 : Nat))]) (fun _=>S ++ accT 111 2 rows)
    (fun k=>k.1 ≤ i) (fun k=>i - k.1) (0,false) (Nat.zero_le _) ?_ rfl ?_
  · simp only[↓eA,eB,evU,seval]
    try rfl
  rintro ⟨k,tw⟩ hk
  simp only at hk ⊢
  by_cases hki : k < i
  · have hltk : (k : Int) < i:=by omega
    have hk1 : (k : Int) + 1 = ((k + 1 : Nat) : Int):=by omega
    obtain ⟨y,hy⟩ : ∃ y,l[k]? = some y:=⟨_,List.getElem?_eq_getElem (by omega)⟩
    cases tw<;>simp (disch:=first|omega|(simp only[lenT];omega)) only[dT hltk,hc,hy,inR,wrap_i64,hk1,evSt,↓eA,eB,evU,seval]
    all_goals first | exact ⟨(k + 1,_),by simp only;omega,by simp only;omega,rfl,rfl⟩ | exact ⟨(k + 1,_),by simp only;omega,by simp only;omega,⟨rfl,rfl⟩,rfl⟩ | exact ⟨(k + 1,_),by simp only;omega,by simp only;omega,rfl,rfl,rfl⟩
  have hltk : ¬ (k : Int) < i:=by omega
  have b0 : rows.length < 100000000:=by omega
  have b1 : (rows ++ [[V.int .i64 2,V.str at_]]).length < 100000000:=by simp;omega
  have g1:=fr_snoc (e:=2) hfr hat
  have g2:=fr_snoc (e:=6) hfr hat
  have g3:=fr_snoc (e:=6) g1 hat
  cases q1 : decide (x < 1)<;>cases q2 : decide (9999 < x)<;>cases tw<;>simp (disch:=first|omega|(simp only[lenT];omega)) only[dF hltk,hc,q1,q2,inR,wrap_i64,hi1,app_accL rfl b0,app_accL rfl b1,evSt,↓eA,eB,evU,seval]
  all_goals first
    | exact ⟨(i + 1,rows),⟨by simp only;omega,by simp only;omega,hfr⟩,by simp only;omega,⟨rfl,rfl⟩,rfl⟩
    | exact ⟨(i + 1,rows ++ [[.int .i64 2,.str at_]]),⟨by simp only;omega,by simp only[List.length_append,List.length_singleton];omega,g1⟩,by simp only;omega,⟨rfl,rfl⟩,rfl⟩
    | exact ⟨(i + 1,rows ++ [[.int .i64 6,.str at_]]),⟨by simp only;omega,by simp only[List.length_append,List.length_singleton];omega,g2⟩,by simp only;omega,⟨rfl,rfl⟩,rfl⟩
    | exact ⟨(i + 1,rows ++ [[.int .i64 2,.str at_]] ++ [[.int .i64 6,.str at_]]),⟨by simp only;omega,by simp only[List.length_append,List.length_singleton];omega,g3⟩,by simp only;omega,⟨rfl,rfl⟩,rfl⟩
set_option maxHeartbeats 4000000 in
set_option maxRecDepth 10000 in
theorem percents21_A (l : List (Txt × Int)) (hl : l.length ≤ 1048576) (S : Store) : CallA Tryz.prog 91 [.sl 2 (l.map perR)] S fun v S'=>∃ rows : List (List V),v = .sl 2 rows ∧ (rows.length ≤ 3 * l.length ∧ (∀ r ∈ rows,FR r) ∧ (rows = [] → ∀ q ∈ l,0 ≤ q.2 ∧ q.2 ≤ 1000)) ∧ S' = S:=by
  refine CallA.withNeat Tryz.func91 c5043 fun hn=>?_
  refine (CallA.fin Tryz.func91 c5043 (R:=fun v S'=>(∃ rows : List (List V),v = .sl 2 rows ∧ (rows.length ≤ 3 * l.length ∧ (∀ r ∈ rows,FR r) ∧ (rows = [] → ∀ q ∈ l,0 ≤ q.2 ∧ q.2 ≤ 1000))) ∧ S' = S) (Nat.le_of_ble_eq_true rfl) fun σ hσ=>?_).mono fun r S' ⟨⟨L,h1,h2⟩,h3⟩=>⟨L,h1,h2,h3⟩
  simp (disch:=first|omega|(simp only[lenT];omega)) only[a5043,evSt,↓eA,eB,evU,seval]
  refine loopA (ι:=Nat × List (List V)) (fun i=>[(0,.sl 2 (l.map perR)),(3,accV S.length i.2),(4,.int .i64 (i.1 : Nat))]) (fun i=>S ++ accT 111 2 i.2)
    (fun i=>i.1 ≤ l.length ∧ i.2.length ≤ 3 * i.1 ∧ (∀ r ∈ i.2,FR r) ∧ (i.2 = [] → ∀ q ∈ l.take i.1,0 ≤ q.2 ∧ q.2 ≤ 1000)) (fun i=>l.length - i.1) (0,[]) ⟨Nat.zero_le _,by simp,(fun r hr=>by cases hr),fun _ q hq=>by simp at hq⟩ ?_ (by simp [accT]) ?_
  · simp only[accV_nil,↓eA,eB,evU,seval]
    try rfl
  rintro ⟨i,rows⟩ ⟨hi,hrl,hfr,hsp⟩
  simp only at hi hrl hfr hsp ⊢
  cases hc : l[i]? with
  | none =>
    have hge:=List.getElem?_eq_none_iff.1 hc
    have hlt : ¬ ((i : Int) < l.length):=by omega
    have hil : i = l.length:=by omega
    simp (disch:=first|omega|(simp only[lenT];omega)) only[dF hlt,evSt,↓eA,eB,evU,seval]
    exact ⟨_,S,hn.fgt _,frz_acc (fun r hr=>(hfr r hr).imm),Nat.le_refl _,⟨rows,rfl,by omega,hfr,by rw[List.take_of_length_le hge] at hsp;exact hsp⟩,rfl⟩
  | some x =>
  have hlt':=(List.getElem?_eq_some_iff.1 hc).1
  have hlt : ((i : Int) < l.length):=by omega
  have hi1 : (i : Int) + 1 = ((i + 1 : Nat) : Int):=by omega
  obtain ⟨at_,hadd,hat⟩ : ∃ at_ : Txt,binV .add (.str txPc) (.str (decX i)) = some (.str at_) ∧ at_.length ≤ 40:=⟨_,add_dec txPc i (by decide),dec_le txPc i (by decide)⟩
  simp only[txPc] at hadd
  simp (disch:=first|omega|(simp only[lenT];omega)) only[dT hlt,evSt,↓eA,eB,evU,seval]
  refine (decX_A i (by omega) _).then ?_
  simp (disch:=first|omega|(simp only[lenT];omega)) only[hadd,evSt,↓eA,eB,evU,seval]
  refine loopA (ι:=Nat × Bool) (fun k=>[(0,.sl 2 (l.map perR)),(3,accV S.length rows),(4,.int .i64 (i : Nat)),(5,.str at_),(6,.bool k.2),(7,.int .i64 (k.1 : Nat))]) (fun _=>S ++ accT 111 2 rows)
    (fun k=>k.1 ≤ i) (fun k=>i - k.1) (0,false) (Nat.zero_le _) ?_ rfl ?_
  · simp only[↓eA,eB,evU,seval]
    try rfl
  rintro ⟨k,tw⟩ hk
  simp only at hk ⊢
  by_cases hki : k < i
  · have hltk : (k : Int) < i:=by omega
    have hk1 : (k : Int) + 1 = ((k + 1 : Nat) : Int):=by omega
    obtain ⟨y,hy⟩ : ∃ y,l[k]? = some y:=⟨_,List.getElem?_eq_getElem (by omega)⟩
    cases tw<;>simp (disch:=first|omega|(simp only[lenT];omega)) only[dT hltk,hc,hy,perR,wrap_i64,hk1,evSt,↓eA,eB,evU,seval]
    all_goals first | exact ⟨(k + 1,_),by simp only;omega,by simp only;omega,rfl,rfl⟩ | exact ⟨(k + 1,_),by simp only;omega,by simp only;omega,⟨rfl,rfl⟩,rfl⟩ | exact ⟨(k + 1,_),by simp only;omega,by simp only;omega,rfl,rfl,rfl⟩
  have hltk : ¬ (k : Int) < i:=by omega
  have b0 : rows.length < 100000000:=by omega
  have cd:=fun S=>rcodeT_A x.1 3 3 S
  have a1 : ∀ (R : List (List V)) (e : Int),R.length ≤ rows.length + 2 → (∀ r ∈ R,FR r) → (R ++ [[V.int .i64 e,V.str at_]]).length ≤ R.length + 1 ∧ R.length < 100000000 ∧ ∀ r ∈ R ++ [[V.int .i64 e,V.str at_]],FR r:=fun R e h1 h2=>⟨by simp,by omega,fr_snoc h2 hat⟩
  obtain ⟨m1,_,f1⟩:=a1 rows 5 (by omega) hfr
  obtain ⟨m2,b2,f2⟩:=a1 rows 6 (by omega) hfr
  obtain ⟨m3,b3,f3⟩:=a1 rows 2 (by omega) hfr
  obtain ⟨m4,b4,f4⟩:=a1 _ 6 (by omega) f1
  obtain ⟨m5,b5,f5⟩:=a1 _ 2 (by omega) f1
  obtain ⟨m6,b6,f6⟩:=a1 _ 2 (by omega) f2
  have f7:=fr_snoc (e:=2) f4 hat
  have b7 : (rows ++ [[V.int .i64 5,V.str at_]] ++ [[V.int .i64 6,V.str at_]]).length < 100000000:=by omega
  have ne : ∀ (R : List (List V)) (r : List V),R ++ [r] = [] → False:=fun R r h=>by simp at h
  have tks : ∀ q ∈ l.take (i + 1),q ∈ l.take i ∨ q = x:=fun q hq=>by
    rw[take_at hc] at hq
    rcases List.mem_append.1 hq with h | h
    · exact .inl h
    · exact .inr (List.mem_singleton.1 h)
  simp (disch:=first|omega|(simp only[lenT];omega)) only[dF hltk,hc,perR,evSt,↓eA,eB,evU,seval]
  refine (cd _).then ?_
  generalize codeF x.1 3 3 = z
  cases z<;>cases tw<;>cases q1 : decide (x.2 < 0)<;>cases q2 : decide (1000 < x.2)<;>simp (disch:=first|omega|(simp only[lenT];omega)) only[hc,q1,q2,perR,wrap_i64,hi1,app_accL rfl b0,app_accL rfl b4,app_accL rfl b6,app_accL rfl b7,evSt,↓eA,eB,evU,seval]
  all_goals first
    | exact ⟨(i + 1,rows),⟨by simp only;omega,by simp only;omega,hfr,fun h q hq=>by
        rcases tks q hq with h2 | rfl
        · exact hsp h q h2
        · have:=of_decide_eq_false q1;have:=of_decide_eq_false q2;omega⟩,by simp only;omega,⟨rfl,rfl⟩,rfl⟩
    | exact ⟨(i + 1,rows ++ [[.int .i64 5,.str at_]]),⟨by simp only;omega,by simp only;omega,f1,fun h=>(ne _ _ h).elim⟩,by simp only;omega,⟨rfl,rfl⟩,rfl⟩
    | exact ⟨(i + 1,rows ++ [[.int .i64 6,.str at_]]),⟨by simp only;omega,by simp only;omega,f2,fun h=>(ne _ _ h).elim⟩,by simp only;omega,⟨rfl,rfl⟩,rfl⟩
    | exact ⟨(i + 1,rows ++ [[.int .i64 2,.str at_]]),⟨by simp only;omega,by simp only;omega,f3,fun h=>(ne _ _ h).elim⟩,by simp only;omega,⟨rfl,rfl⟩,rfl⟩
    | exact ⟨(i + 1,rows ++ [[.int .i64 5,.str at_]] ++ [[.int .i64 6,.str at_]]),⟨by simp only;omega,by simp only;omega,f4,fun h=>(ne _ _ h).elim⟩,by simp only;omega,⟨rfl,rfl⟩,rfl⟩
    | exact ⟨(i + 1,rows ++ [[.int .i64 5,.str at_]] ++ [[.int .i64 2,.str at_]]),⟨by simp only;omega,by simp only;omega,f5,fun h=>(ne _ _ h).elim⟩,by simp only;omega,⟨rfl,rfl⟩,rfl⟩
    | exact ⟨(i + 1,rows ++ [[.int .i64 6,.str at_]] ++ [[.int .i64 2,.str at_]]),⟨by simp only;omega,by simp only;omega,f6,fun h=>(ne _ _ h).elim⟩,by simp only;omega,⟨rfl,rfl⟩,rfl⟩
    | exact ⟨(i + 1,rows ++ [[.int .i64 5,.str at_]] ++ [[.int .i64 6,.str at_]] ++ [[.int .i64 2,.str at_]]),⟨by simp only;omega,by simp only[List.length_append,List.length_singleton];omega,f7,fun h=>(ne _ _ h).elim⟩,by simp only;omega,⟨rfl,rfl⟩,rfl⟩
end Go.Proofs.YtanmnoipikdplaaGreat
/- Component: the reference's look at a rule and at a routing,and its own faults. -/
namespace Go.Proofs.YtanmnoipikdplaaGreat
open Go Go.AL
set_option linter.unusedSectionVars false
variable [Go.AL.Mode]
set_option linter.unusedSimpArgs false
set_option linter.unusedVariables false
def FI (r : List V) : Prop:=r.length = 2 ∧ V.allImm r = true
theorem FI.one (e : Int) (s : Txt) : FI [.int .i64 e,.str s]:=⟨rfl,rfl⟩
theorem all_snoc {α : Type} {p : α → Prop} {l : List α} {x : α} (h : ∀ r ∈ l,p r) (hx : p x) : ∀ r ∈ l ++ [x],p r:=fun r hr=>by
  rcases List.mem_append.1 hr with hr | hr
  · exact h r hr
  · rw[List.mem_singleton] at hr
    exact hr ▸ hx
theorem all_app {α : Type} {p : α → Prop} {l m : List α} (h : ∀ r ∈ l,p r) (hx : ∀ r ∈ m,p r) : ∀ r ∈ l ++ m,p r:=fun r hr=>by
  rcases List.mem_append.1 hr with hr | hr
  · exact h r hr
  · exact hx r hr
theorem ne_snoc {α : Type} {l : List α} {x : α} {Q : Prop} (h : l ++ [x] = []) : Q:=by simp at h
theorem add2 (a b : Txt) (h : a.length + b.length ≤ 1000) : binV .add (.str a) (.str b) = some (.str (a ++ b)):=bs_add (by unfold maxLen;omega)
set_option maxHeartbeats 4000000 in
set_option maxRecDepth 10000 in
theorem inner_A {S0 : Store} {rows0 : List (List V)} {v0 : V} {S : Store} (h0 : LG S0 111 2 rows0 v0 S) (h0l : rows0.length ≤ 700000000) (hi : ∀ r ∈ rows0,FI r) (at_ : Txt) (ha : at_.length ≤ 100) (fs : List (List V)) (hf : ∀ r ∈ fs,FR r) (hl : fs.length ≤ 100000000) :
    CallA Tryz.prog 60 [v0,.str at_,.sl 2 fs] S fun r S'=>∃ rows,LG S0 111 2 rows r S' ∧ rows.length = rows0.length + fs.length ∧ ∀ r ∈ rows,FI r:=by
  refine CallA.keep Tryz.func60 c5051 (Nat.le_of_ble_eq_true rfl) fun σ hσ=>?_
  simp (disch:=first|omega|(simp only[lenT];omega)) only[a5051,evSt,↓eA,eB,evU,seval]
  refine loopA (ι:=Nat × List (List V) × V × Store) (fun i=>[(0,i.2.2.1),(1,.str at_),(2,.sl 2 fs),(7,.int .i64 (i.1 : Nat))]) (fun i=>i.2.2.2)
    (fun i=>i.1 ≤ fs.length ∧ LG S0 111 2 i.2.1 i.2.2.1 i.2.2.2 ∧ i.2.1.length = rows0.length + i.1 ∧ ∀ r ∈ i.2.1,FI r) (fun i=>fs.length - i.1) (0,rows0,v0,S) ⟨Nat.zero_le _,h0,rfl,hi⟩ ?_ rfl ?_
  · simp only[↓eA,eB,evU,seval]
    try rfl
  rintro ⟨i,rows,v,S1⟩ ⟨hi1,hg,hlen,hfi⟩
  simp only at hi1 hg hlen hfi ⊢
  cases hc : fs[i]? with
  | none =>
    have hge:=List.getElem?_eq_none_iff.1 hc
    have hlt : ¬ ((i : Int) < fs.length):=by omega
    simp (disch:=first|omega|(simp only[lenT];omega)) only[dF hlt,evSt,↓eA,eB,evU,seval]
    exact ⟨rows,hg,by omega,hfi⟩
  | some x =>
  have hlt':=(List.getElem?_eq_some_iff.1 hc).1
  have hlt : ((i : Int) < fs.length):=by omega
  have hi2 : (i : Int) + 1 = ((i + 1 : Nat) : Int):=by omega
  obtain ⟨e,s,rfl,hs⟩:=hf x (List.mem_of_getElem? hc)
  have ad1:=add2 at_ [32] (by simp;omega)
  have ad2:=add2 (at_ ++ [32]) s (by simp;omega)
  simp (disch:=first|omega|(simp only[lenT];omega)) only[dT hlt,hc,ad1,ad2,evSt,↓eA,eB,evU,seval]
  refine hg.app (by simp;omega) fun v' S2 h2=>?_
  simp (disch:=first|omega|(simp only[lenT];omega)) only[wrap_i64,hi2,evSt,↓eA,eB,evU,seval]
  refine ⟨(i + 1,rows ++ [[.int .i64 e,.str (at_ ++ [32] ++ s)]],v',S2),⟨by simp only;omega,h2,by simp only[List.length_append,List.length_singleton];omega,all_snoc hfi (FI.one _ _)⟩,by simp only;omega,?_⟩
  first | exact ⟨⟨rfl,rfl,rfl,rfl⟩,rfl⟩ | exact ⟨⟨rfl,rfl⟩,rfl⟩ | exact ⟨rfl,rfl⟩
def GF (S : Store) (m : Nat) (c : V) (P : Prop) (E : Env) (S' : Store) : Prop:=∃ rows,LG S 111 2 rows (E.get 3) S' ∧ E.get 1 = c ∧ rows.length ≤ m ∧ (∀ r ∈ rows,FR r) ∧ (rows = [] → P)
theorem GF.app1 {S : Store} {m : Nat} {rows : List (List V)} {v : V} {S' : Store} {K : V → Store → Prop} {e : Int} {s : Txt} (h : LG S 111 2 rows v S') (hl : rows.length ≤ m) (hm : m ≤ 100000000)
    (k : ∀ v' S'',LG S 111 2 (rows ++ [[.int .i64 e,.str s]]) v' S'' → K v' S'') : appK 111 2 v (some (2,[[.int .i64 e,.str s]])) S' K:=h.app (by simp;omega) k
set_option maxHeartbeats 4000000 in
set_option maxRecDepth 10000 in
theorem check21_A (r : Rul) (hcm : r.comb.length ≤ 1048576) (hpr : r.per.length ≤ 1048576) (S : Store) : CallA Tryz.prog 61 [.agg (rulR r)] S fun v S'=>∃ rows : List (List V),v = .sl 2 rows ∧ (rows.length ≤ 20000000 ∧ (∀ x ∈ rows,FR x) ∧ (rows = [] → RulOk r)) ∧ S' = S:=by
  refine CallA.withNeat Tryz.func61 c5041 fun hn=>?_
  refine (CallA.fin Tryz.func61 c5041 (R:=fun v S'=>(∃ rows : List (List V),v = .sl 2 rows ∧ (rows.length ≤ 20000000 ∧ (∀ x ∈ rows,FR x) ∧ (rows = [] → RulOk r))) ∧ S' = S) (Nat.le_of_ble_eq_true rfl) fun σ hσ=>?_).mono fun r S' ⟨⟨L,h1,h2⟩,h3⟩=>⟨L,h1,h2,h3⟩
  have ck:=fun S=>check20_A r.w S
  have ls:=fun S=>list21_A r.comb hcm S
  have ps:=fun S=>percents21_A r.per hpr S
  unfold RulOk
  generalize hrt : r.w.right = rt at ck ⊢
  obtain ⟨n,⟨k,l,a,b,p,tx⟩,comb,mn,mx,ch,rf,per⟩:=r
  simp only[rulR,Cnd.row,List.cons_append,List.nil_append] at ck ls ps hcm hpr ⊢
  simp only[a5041]
  obtain ⟨cv,hcv⟩ : ∃ cv,cv = V.cptr [.int .i64 n,.int .i64 k,.sl 8 (Cnd.rows l),.int .i64 a,.int .i64 b,.int .i64 p.f,.int .i64 p.t,.int .i64 p.d,.sl 1 (tx.map txR),.sl 1 (comb.map inR),.int .i64 mn,.int .i64 mx,.int .i64 ch,.int .i64 rf,.sl 2 (per.map perR)]:=⟨_,rfl⟩
  refine stageA (fun E S'=>E.get 1 = cv ∧ S' = S) ?_ ?_
  · intro K hK
    simp (disch:=first|omega|(simp only[lenT];omega)) only[evSt,↓eA,eB,evU,seval]
    exact hK _ _ ⟨hcv.symm,rfl⟩
  rintro E S2 ⟨e1,hS2⟩
  rw[hS2]
  clear hS2 S2
  refine stageA (GF S 0 cv True) ?_ ?_
  · intro K hK
    simp (disch:=first|omega|(simp only[lenT];omega)) only[evSt,↓eA,eB,evU,seval]
    exact hK _ _ ⟨[],LG.nil0,e1,Nat.le_refl _,(fun _ h=>by cases h),fun _=>trivial⟩
  clear e1
  rintro E S1 ⟨rows,hg,e1,hl,hf,hp⟩
  refine stageA (GF S 1 cv True) ?_ ?_
  · intro K hK
    cases q1 : decide (n < 1)<;>cases q2 : decide (9999 < n)<;>simp (disch:=first|omega|(simp only[lenT];omega)) only[e1,hcv,q1,q2,evSt,↓eA,eB,evU,seval]
    all_goals first
      | exact hK _ _ ⟨rows,hg,e1,by omega,hf,hp⟩
      | (refine GF.app1 hg hl (by decide) fun v' S2 h2=>?_
         simp (disch:=first|omega|(simp only[lenT];omega)) only[evSt,↓eA,eB,evU,seval]
         exact hK _ _ ⟨_,h2,e1,by simp only[List.length_append,List.length_singleton];omega,fr_snoc hf (by decide),ne_snoc⟩)
  clear e1
  rintro E S1 ⟨rows,hg,e1,hl,hf,hp⟩
  refine stageA (fun E S'=>∃ e : Int,E.get 4 = .int .i64 e ∧ (e = 0 → rt) ∧ GF S 1 cv True E S') ?_ ?_
  · intro K hK
    simp (disch:=first|omega|(simp only[lenT];omega)) only[e1,hcv,evSt,↓eA,eB,evU,seval]
    refine (ck _).mono ?_
    rintro _ S2 ⟨e,rfl,he,hS2⟩
    rw[hS2]
    clear hS2 S2
    simp (disch:=first|omega|(simp only[lenT];omega)) only[evSt,↓eA,eB,evU,seval]
    exact hK _ _ ⟨e,rfl,he,rows,hg,e1,hl,hf,hp⟩
  clear e1
  rintro E S1 ⟨e,e4,he,rows,hg,e1,hl,hf,hp⟩
  refine stageA (GF S 2 cv rt) ?_ ?_
  · intro K hK
    by_cases h0 : e = 0
    · simp (disch:=first|omega|(simp only[lenT];omega)) only[e4,dT h0,evSt,↓eA,eB,evU,seval]
      exact hK _ _ ⟨rows,hg,e1,by omega,hf,fun _=>he h0⟩
    · simp (disch:=first|omega|(simp only[lenT];omega)) only[e4,dF h0,evSt,↓eA,eB,evU,seval]
      refine GF.app1 hg hl (by decide) fun v' S2 h2=>?_
      simp (disch:=first|omega|(simp only[lenT];omega)) only[evSt,↓eA,eB,evU,seval]
      exact hK _ _ ⟨_,h2,e1,by simp only[List.length_append,List.length_singleton];omega,fr_snoc hf (by decide),ne_snoc⟩
  clear e1 e4 he
  rintro E S1 ⟨rows,hg,e1,hl,hf,hp⟩
  refine stageA (GF S 3000000 cv rt) ?_ ?_
  · intro K hK
    simp (disch:=first|omega|(simp only[lenT];omega)) only[e1,hcv,evSt,↓eA,eB,evU,seval]
    refine (ls _).mono ?_
    rintro _ S2 ⟨rows2,rfl,⟨hl2,hf2⟩,hS2⟩
    rw[hS2]
    clear hS2 S2
    simp (disch:=first|omega|(simp only[lenT];omega)) only[evSt,↓eA,eB,evU,seval]
    refine hg.app (by omega) fun v' S2 h2=>?_
    simp (disch:=first|omega|(simp only[lenT];omega)) only[evSt,↓eA,eB,evU,seval]
    exact hK _ _ ⟨_,h2,e1,by rw[List.length_append];omega,all_app hf hf2,fun h=>hp (List.append_eq_nil_iff.1 h).1⟩
  clear e1
  rintro E S1 ⟨rows,hg,e1,hl,hf,hp⟩
  refine stageA (GF S 3000001 cv rt) ?_ ?_
  · intro K hK
    cases q1 : decide (mn < 0)<;>cases q2 : decide (400 < mn)<;>cases q3 : decide (mx < 0)<;>cases q4 : decide (400 < mx)<;>simp (disch:=first|omega|(simp only[lenT];omega)) only[e1,hcv,q1,q2,q3,q4,evSt,↓eA,eB,evU,seval]
    all_goals first
      | exact hK _ _ ⟨rows,hg,e1,by omega,hf,hp⟩
      | (refine GF.app1 hg hl (by decide) fun v' S2 h2=>?_
         simp (disch:=first|omega|(simp only[lenT];omega)) only[evSt,↓eA,eB,evU,seval]
         exact hK _ _ ⟨_,h2,e1,by simp only[List.length_append,List.length_singleton];omega,fr_snoc hf (by decide),ne_snoc⟩)
  clear e1
  rintro E S1 ⟨rows,hg,e1,hl,hf,hp⟩
  refine stageA (GF S 3000002 cv rt) ?_ ?_
  · intro K hK
    cases q1 : decide (0 < mx)<;>cases q2 : decide (mx < mn)<;>simp (disch:=first|omega|(simp only[lenT];omega)) only[e1,hcv,q1,q2,evSt,↓eA,eB,evU,seval]
    all_goals first
      | exact hK _ _ ⟨rows,hg,e1,by omega,hf,hp⟩
      | (refine GF.app1 hg hl (by decide) fun v' S2 h2=>?_
         simp (disch:=first|omega|(simp only[lenT];omega)) only[evSt,↓eA,eB,evU,seval]
         exact hK _ _ ⟨_,h2,e1,by simp only[List.length_append,List.length_singleton];omega,fr_snoc hf (by decide),ne_snoc⟩)
  clear e1
  rintro E S1 ⟨rows,hg,e1,hl,hf,hp⟩
  refine stageA (GF S 3000003 cv rt) ?_ ?_
  · intro K hK
    cases q1 : decide (ch < -1)<;>cases q2 : decide (1099511627776 < ch)<;>cases q3 : decide (rf < -1)<;>cases q4 : decide (1099511627776 < rf)<;>simp (disch:=first|omega|(simp only[lenT];omega)) only[e1,hcv,q1,q2,q3,q4,evSt,↓eA,eB,evU,seval]
    all_goals first
      | exact hK _ _ ⟨rows,hg,e1,by omega,hf,hp⟩
      | (refine GF.app1 hg hl (by decide) fun v' S2 h2=>?_
         simp (disch:=first|omega|(simp only[lenT];omega)) only[evSt,↓eA,eB,evU,seval]
         exact hK _ _ ⟨_,h2,e1,by simp only[List.length_append,List.length_singleton];omega,fr_snoc hf (by decide),ne_snoc⟩)
  clear e1
  rintro E S1 ⟨rows,hg,e1,hl,hf,hp⟩
  simp (disch:=first|omega|(simp only[lenT];omega)) only[e1,hcv,evSt,↓eA,eB,evU,seval]
  refine (ps _).mono ?_
  rintro _ S2 ⟨rows2,rfl,⟨hl2,hf2,hz⟩,hS2⟩
  rw[hS2]
  clear hS2 S2
  simp (disch:=first|omega|(simp only[lenT];omega)) only[evSt,↓eA,eB,evU,seval]
  refine hg.app (by omega) fun v' S2 h2=>?_
  simp (disch:=first|omega|(simp only[lenT];omega)) only[evSt,↓eA,eB,evU,seval]
  have hall:=all_app hf hf2
  have hfin:=h2.fin hn fun r hr=>(hall r hr).imm
  exact ⟨_,S,hfin.1,hfin.2,Nat.le_refl _,⟨_,rfl,by rw[List.length_append];omega,hall,fun h=>⟨hp (List.append_eq_nil_iff.1 h).1,hz (List.append_eq_nil_iff.1 h).2⟩⟩,rfl⟩
def GL (S : Store) (m i : Nat) (c c5 a6 : V) (E : Env) (S' : Store) : Prop:=∃ rows,LG S 111 2 rows (E.get 3) S' ∧ E.get 1 = c ∧ E.get 4 = .int .i64 (i : Nat) ∧ E.get 5 = c5 ∧ E.get 6 = a6 ∧ rows.length ≤ m ∧ ∀ r ∈ rows,FR r
set_option maxHeartbeats 4000000 in
set_option maxRecDepth 10000 in
theorem check22_A (r : Rou) (hlk : r.links.length ≤ 1048576) (S : Store) : CallA Tryz.prog 62 [.agg (rouR r)] S fun v S'=>∃ rows : List (List V),v = .sl 2 rows ∧ (rows.length ≤ 4000000 ∧ ∀ x ∈ rows,FR x) ∧ S' = S:=by
  refine CallA.withNeat Tryz.func62 c5036z fun hn=>?_
  refine (CallA.fin Tryz.func62 c5036z (R:=fun v S'=>(∃ rows : List (List V),v = .sl 2 rows ∧ (rows.length ≤ 4000000 ∧ ∀ x ∈ rows,FR x)) ∧ S' = S) (Nat.le_of_ble_eq_true rfl) fun σ hσ=>?_).mono fun r S' ⟨⟨L,h1,h2⟩,h3⟩=>⟨L,h1,h2,h3⟩
  obtain ⟨n,links,mi⟩:=r
  simp only[rouR] at hlk ⊢
  simp only[a5036z]
  obtain ⟨cv,hcv⟩ : ∃ cv,cv = V.cptr [.int .i64 n,.sl 2 (links.map lnkR),.int .i64 mi]:=⟨_,rfl⟩
  refine stageA (fun E S'=>E.get 1 = cv ∧ S' = S) ?_ ?_
  · intro K hK
    simp (disch:=first|omega|(simp only[lenT];omega)) only[evSt,↓eA,eB,evU,seval]
    exact hK _ _ ⟨hcv.symm,rfl⟩
  rintro E S2 ⟨e1,hS2⟩
  rw[hS2]
  clear hS2 S2
  refine stageA (GF S 0 cv True) ?_ ?_
  · intro K hK
    simp (disch:=first|omega|(simp only[lenT];omega)) only[evSt,↓eA,eB,evU,seval]
    exact hK _ _ ⟨[],LG.nil0,e1,Nat.le_refl _,(fun _ h=>by cases h),fun _=>trivial⟩
  clear e1
  rintro E S1 ⟨rows,hg,e1,hl,hf,hp⟩
  refine stageA (GF S 1 cv True) ?_ ?_
  · intro K hK
    cases q1 : decide (n < 1)<;>cases q2 : decide (9999 < n)<;>simp (disch:=first|omega|(simp only[lenT];omega)) only[e1,hcv,q1,q2,evSt,↓eA,eB,evU,seval]
    all_goals first
      | exact hK _ _ ⟨rows,hg,e1,by omega,hf,hp⟩
      | (refine GF.app1 hg hl (by decide) fun v' S2 h2=>?_
         simp (disch:=first|omega|(simp only[lenT];omega)) only[evSt,↓eA,eB,evU,seval]
         exact hK _ _ ⟨_,h2,e1,by simp only[List.length_append,List.length_singleton];omega,fr_snoc hf (by decide),ne_snoc⟩)
  clear e1
  rintro E S1 ⟨rows,hg,e1,hl,hf,hp⟩
  refine stageA (GF S 2 cv True) ?_ ?_
  · intro K hK
    cases q1 : decide ((128 : Int) < (links.length : Nat))<;>simp (disch:=first|omega|(simp only[lenT];omega)) only[e1,hcv,q1,evSt,↓eA,eB,evU,seval]
    all_goals first
      | exact hK _ _ ⟨rows,hg,e1,by omega,hf,hp⟩
      | (refine GF.app1 hg hl (by decide) fun v' S2 h2=>?_
         simp (disch:=first|omega|(simp only[lenT];omega)) only[evSt,↓eA,eB,evU,seval]
         exact hK _ _ ⟨_,h2,e1,by simp only[List.length_append,List.length_singleton];omega,fr_snoc hf (by decide),ne_snoc⟩)
  clear e1
  rintro E S1 ⟨rows,hg,e1,hl,hf,hp⟩
  refine stageA (GF S 3999999 cv True) ?_ ?_
  · intro K hK
    simp (disch:=first|omega|(simp only[lenT];omega)) only[evSt,↓eA,eB,evU,seval]
    refine loopA (ι:=Nat × List (List V) × V × Store) (fun i=>[(1,cv),(3,i.2.2.1),(4,.int .i64 (i.1 : Nat))]) (fun i=>i.2.2.2)
      (fun i=>i.1 ≤ links.length ∧ LG S 111 2 i.2.1 i.2.2.1 i.2.2.2 ∧ i.2.1.length ≤ 2 + 3 * i.1 ∧ ∀ r ∈ i.2.1,FR r) (fun i=>links.length - i.1) (0,rows,E.get 3,S1) ⟨Nat.zero_le _,hg,hl,hf⟩ ?_ rfl ?_
    · simp only[e1,↓eA,eB,evU,seval]
      try rfl
    clear hg hl hf e1 hp
    rintro ⟨i,rows,v,S1⟩ ⟨hi,hg,hl,hf⟩
    simp only at hi hg hl hf ⊢
    refine stageA (fun E' S'=>((i : Int) < links.length ∧ (links.length : Int) ≤ 128) ∧ E'.get 1 = cv ∧ E'.get 3 = v ∧ E'.get 4 = .int .i64 (i : Nat) ∧ S' = S1) ?_ ?_
    · intro K2 hK2
      by_cases hlt : (i : Int) < links.length
      · by_cases h128 : (links.length : Int) ≤ 128
        · simp (disch:=first|omega|(simp only[lenT];omega)) only[hcv,dT hlt,dT h128,evSt,↓eA,eB,evU,seval]
          exact hK2 _ _ ⟨⟨hlt,h128⟩,hcv.symm,rfl,rfl,rfl⟩
        · simp (disch:=first|omega|(simp only[lenT];omega)) only[hcv,dT hlt,dF h128,evSt,↓eA,eB,evU,seval]
          exact hK _ _ ⟨rows,hg,hcv.symm,by omega,hf,fun _=>trivial⟩
      · simp (disch:=first|omega|(simp only[lenT];omega)) only[hcv,dF hlt,evSt,↓eA,eB,evU,seval]
        exact hK _ _ ⟨rows,hg,hcv.symm,by omega,hf,fun _=>trivial⟩
    rintro E S2 ⟨⟨hlt,h128⟩,e1,e3,e4,hS2⟩
    rw[hS2]
    clear hS2 S2
    obtain ⟨⟨lf,lt⟩,hc⟩ : ∃ y,links[i]? = some y:=⟨_,List.getElem?_eq_getElem (by omega)⟩
    have hi2 : (i : Int) + 1 = ((i + 1 : Nat) : Int):=by omega
    refine stageA (fun E' S'=>∃ c5 a6,GL S (5 + 3 * i) i cv c5 a6 E' S') ?_ ?_
    · intro K2 hK2
      refine stageA (GL S (2 + 3 * i) i cv (.cptr (lnkR (lf,lt))) (E.get 6)) ?_ ?_
      · intro K3 hK3
        simp (disch:=first|omega|(simp only[lenT];omega)) only[e1,e3,e4,hcv,hc,lnkR,evSt,↓eA,eB,evU,seval]
        exact hK3 _ _ ⟨rows,e3 ▸ hg.add _,e1,e4,rfl,rfl,hl,hf⟩
      clear hg hl hf e1 e3 e4
      rintro E S1 ⟨rows,hg,e1,e4,e5,-,hl,hf⟩
      obtain ⟨at_,hadd,hat⟩ : ∃ at_ : Txt,binV .add (.str txLk) (.str (decX i)) = some (.str at_) ∧ at_.length ≤ 40:=⟨_,add_dec txLk i (by decide),dec_le txLk i (by decide)⟩
      simp only[txLk] at hadd
      refine stageA (GL S (2 + 3 * i) i cv (.cptr (lnkR (lf,lt))) (.str at_)) ?_ ?_
      · intro K3 hK3
        simp (disch:=first|omega|(simp only[lenT];omega)) only[e4,evSt,↓eA,eB,evU,seval]
        refine (decX_A i (by omega) _).then ?_
        simp (disch:=first|omega|(simp only[lenT];omega)) only[hadd,evSt,↓eA,eB,evU,seval]
        exact hK3 _ _ ⟨rows,hg,e1,e4,e5,rfl,hl,hf⟩
      clear hg hl hf e1 e4 e5
      rintro E S1 ⟨rows,hg,e1,e4,e5,e6,hl,hf⟩
      refine stageA (GL S (3 + 3 * i) i cv (.cptr (lnkR (lf,lt))) (.str at_)) ?_ ?_
      · intro K3 hK3
        simp (disch:=first|omega|(simp only[lenT];omega)) only[e5,lnkR,evSt,↓eA,eB,evU,seval]
        refine (rairport_A lf _).then ?_
        generalize letF lf 3 = z1
        cases z1
        case false =>
          simp (disch:=first|omega|(simp only[lenT];omega)) only[e5,e6,lnkR,evSt,↓eA,eB,evU,seval]
          refine GF.app1 hg hl (by omega) fun v' S2 h2=>?_
          simp (disch:=first|omega|(simp only[lenT];omega)) only[e6,evSt,↓eA,eB,evU,seval]
          exact hK3 _ _ ⟨_,h2,e1,e4,e5,e6,by simp only[List.length_append,List.length_singleton];omega,fr_snoc hf hat⟩
        simp (disch:=first|omega|(simp only[lenT];omega)) only[e5,lnkR,evSt,↓eA,eB,evU,seval]
        refine (rairport_A lt _).then ?_
        generalize letF lt 3 = z2
        cases z2<;>simp (disch:=first|omega|(simp only[lenT];omega)) only[e5,e6,lnkR,evSt,↓eA,eB,evU,seval]
        all_goals first
          | exact hK3 _ _ ⟨rows,hg,e1,e4,e5,e6,by omega,hf⟩
          | (refine GF.app1 hg hl (by omega) fun v' S2 h2=>?_
             simp (disch:=first|omega|(simp only[lenT];omega)) only[e6,evSt,↓eA,eB,evU,seval]
             exact hK3 _ _ ⟨_,h2,e1,e4,e5,e6,by simp only[List.length_append,List.length_singleton];omega,fr_snoc hf hat⟩)
      clear hg hl hf e1 e4 e5 e6
      rintro E S1 ⟨rows,hg,e1,e4,e5,e6,hl,hf⟩
      refine stageA (GL S (4 + 3 * i) i cv (.cptr (lnkR (lf,lt))) (.str at_)) ?_ ?_
      · intro K3 hK3
        cases q1 : decide (lf = lt)<;>simp (disch:=first|omega|(simp only[lenT];omega)) only[e5,e6,q1,lnkR,evSt,↓eA,eB,evU,seval]
        all_goals first
          | exact hK3 _ _ ⟨rows,hg,e1,e4,e5,e6,by omega,hf⟩
          | (refine GF.app1 hg hl (by omega) fun v' S2 h2=>?_
             simp (disch:=first|omega|(simp only[lenT];omega)) only[e6,evSt,↓eA,eB,evU,seval]
             exact hK3 _ _ ⟨_,h2,e1,e4,e5,e6,by simp only[List.length_append,List.length_singleton];omega,fr_snoc hf hat⟩)
      clear hg hl hf e1 e4 e5 e6
      rintro E S1 ⟨rows,hg,e1,e4,e5,e6,hl,hf⟩
      have hile : (i : Int) ≤ (links.length : Nat):=by omega
      have lk:=fun S=>link_A (links.take i) lf lt S
      simp (disch:=first|omega|(simp only[lenT];omega)) only[e1,e4,e5,hcv,if_pos hile,lnkR,evSt,↓eA,eB,evU,seval]
      refine (lk _).then ?_
      generalize ixF (fun x=>decide (x.1 = lf) && decide (x.2 = lt)) (links.take i) 0 = z
      cases q1 : decide ((0 : Int) ≤ z)<;>simp (disch:=first|omega|(simp only[lenT];omega)) only[q1,e6,evSt,↓eA,eB,evU,seval]
      all_goals first
        | exact hK2 _ _ ⟨_,_,rows,hg,e1,e4,e5,e6,by omega,hf⟩
        | (refine GF.app1 hg hl (by omega) fun v' S2 h2=>?_
           simp (disch:=first|omega|(simp only[lenT];omega)) only[e6,evSt,↓eA,eB,evU,seval]
           exact hK2 _ _ ⟨_,_,_,h2,e1,e4,e5,e6,by simp only[List.length_append,List.length_singleton];omega,fr_snoc hf hat⟩)
    clear hg hl hf e1 e3 e4
    rintro E S1 ⟨c5,a6,rows,hg,e1,e4,e5,e6,hl,hf⟩
    simp (disch:=first|omega|(simp only[lenT];omega)) only[e4,wrap_i64,hi2,evSt,↓eA,eB,evU,seval]
    exact ⟨(i + 1,rows,E.get 3,S1),⟨by simp only;omega,hg,by simp only;omega,hf⟩,by simp only;omega,⟨e1,rfl,rfl⟩,rfl⟩
  clear e1
  rintro E S1 ⟨rows,hg,e1,hl,hf,hp⟩
  refine stageA (GF S 4000000 cv True) ?_ ?_
  · intro K hK
    cases q1 : decide (mi < 0)<;>cases q2 : decide (99999 < mi)<;>simp (disch:=first|omega|(simp only[lenT];omega)) only[e1,hcv,q1,q2,evSt,↓eA,eB,evU,seval]
    all_goals first
      | exact hK _ _ ⟨rows,hg,e1,by omega,hf,hp⟩
      | (refine GF.app1 hg hl (by decide) fun v' S2 h2=>?_
         simp (disch:=first|omega|(simp only[lenT];omega)) only[evSt,↓eA,eB,evU,seval]
         exact hK _ _ ⟨_,h2,e1,by simp only[List.length_append,List.length_singleton];omega,fr_snoc hf (by decide),ne_snoc⟩)
  clear e1
  rintro E S1 ⟨rows,hg,e1,hl,hf,hp⟩
  simp (disch:=first|omega|(simp only[lenT];omega)) only[evSt,↓eA,eB,evU,seval]
  have hfin:=hg.fin hn fun r hr=>(hf r hr).imm
  exact ⟨_,S,hfin.1,hfin.2,Nat.le_refl _,⟨_,rfl,by omega,hf⟩,rfl⟩
end Go.Proofs.YtanmnoipikdplaaGreat
