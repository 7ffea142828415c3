/- Component, plainly: cities, trips, reasons, amounts. -/
import Derived.Test.YtanmnoipikdplaaGreatWCmp1
import Derived.Test.YtanmnoipikdplaaGreatWMil7
import Derived.Test.YtanmnoipikdplaaGreatWAlM
namespace Go.Proofs.YtanmnoipikdplaaGreat
open Go Go.AL
set_option linter.unusedSectionVars false
variable [Go.AL.Mode]
set_option linter.unusedSimpArgs false
set_option linter.unusedVariables false
def zoneF (p : Pls) (c : Txt) : Int × List (Int × Int):=match p.1.find? fun a=>decide (a.code = c) with
  | some a=>(a.off,a.sh)
  | none=>(0,[])
def localZ (z : Int × List (Int × Int)) (u : Int) : Int:=IntKind.i64.wrap (u + offB z.1 z.2 u)
def citiesF (p : Pls) : List Wnt → List Txt
  | []=>[]
  | w :: l=>Ml.cityF p.1 w.s.f :: (w :: l).map fun w=>Ml.cityF p.1 w.s.t
def stopB (a b : Wnt) : Bool:=decide (1440 ≤ b.s.dep - a.s.arr)
def cntN (q : Wnt → Wnt → Bool) (l : List Wnt) : Nat → Nat
  | 0=>0
  | i + 1=>cntN q l i + if i = 0 then 0 else match l[i - 1]?,l[i]? with
    | some a,some b=>if q a b then 1 else 0
    | _,_=>0
def tripF (p : Pls) (l : List Wnt) (ty : Txt) (sale : Int) : Trp:=match l with
  | []=>⟨ty,sale,0,0,0,0,[],[],[]⟩
  | w :: r=>⟨ty,sale,(splitF (localZ (zoneF p w.s.f) w.s.dep)).1,(splitF (localZ (zoneF p w.s.f) w.s.dep)).2,(cntN stopB (w :: r) (w :: r).length : Nat),(cntN (fun a b=>!stopB a b) (w :: r) (w :: r).length : Nat),
    (w :: r).map (fun w=>w.s.c),(w :: r).map (fun w=>w.s.n),(citiesF p (w :: r)).tail.dropLast⟩
structure Tar where
  fares : List Fr
  rules : List Rul
  routs : List Rou
def zCnd : Cnd:=.mk 0 [] 0 0 ⟨0,0,0⟩ []
def zRul : Rul:=⟨0,zCnd,[],0,0,0,0,[]⟩
def zRou : Rou:=⟨0,[],0⟩
def ruleF (t : Tar) (n : Int) : Option Rul:=t.rules.find? fun r=>decide (r.n = n)
def routF (t : Tar) (n : Int) : Option Rou:=t.routs.find? fun r=>decide (r.n = n)
def linkedF (links : List (Txt × Txt)) : List Txt → Bool
  | a :: b :: l=>links.contains (a,b) && linkedF links (b :: l)
  | _=>true
def allowsF (r : Rou) (cs : List Txt) : Bool:=r.links.isEmpty || linkedF r.links cs
def payF (r : Rul) (ty : Txt) (am : Int) : Int × Int:=match r.per.find? fun q=>decide (q.1 = ty) with
  | some q=>Ml.percentF am (100 * q.2)
  | none=>Ml.percentF am 10000
def wayF (p : Pls) (t : Tar) (f : Fr) (cs : List Txt) : Int :=
  if f.rout = 0 then 0 else if allowsF ((routF t f.rout).getD zRou) cs = false then 21 else if ((routF t f.rout).getD zRou).mi ≤ 0 then 0 else (Ml.ofF p cs ((routF t f.rout).getD zRou).mi).2
def endsF (f : Fr) (l : List Wnt) (cs : List Txt) : Bool:=(l.all fun w=>decide (w.s.c = f.c)) && (decide (cs.head? = some f.f) && decide (cs.getLast? = some f.t))
def whyF (p : Pls) (t : Tar) (at_ : Int) (l : List Wnt) (ty : Txt) (sale : Int) : Int :=
  if l = [] ∨ at_ < 0 then 2 else match t.fares[at_.toNat]? with
  | none=>2
  | some f=>if endsF f l (citiesF p l) = false then 19 else if (l.any fun w=>decide (w.cl ≠ f.cl)) then 16
    else if Cnd.holds (tripF p l ty sale) ((ruleF t f.rule).getD zRul).w = false then 20 else wayF p t f (citiesF p l)
def extraF (p : Pls) (t : Tar) (f : Fr) (l : List Wnt) : Int × Int :=
  if f.rout = 0 ∨ ((routF t f.rout).getD zRou).mi ≤ 0 then (0,0) else Ml.ofF p (citiesF p l) ((routF t f.rout).getD zRou).mi
def amountF (p : Pls) (t : Tar) (at_ : Int) (l : List Wnt) (ty : Txt) : Int × Int :=
  if l = [] ∨ at_ < 0 then (0,2) else match t.fares[at_.toNat]? with
  | none=>(0,2)
  | some f=>if (extraF p t f l).2 ≠ 0 then (0,(extraF p t f l).2) else if (Ml.applyF f.am (extraF p t f l).1).2 ≠ 0 then (0,(Ml.applyF f.am (extraF p t f l).1).2)
    else payF ((ruleF t f.rule).getD zRul) ty (Ml.applyF f.am (extraF p t f l).1).1
end Go.Proofs.YtanmnoipikdplaaGreat
/- Component: neat stores,object by object. -/
namespace Go.Proofs.YtanmnoipikdplaaGreat
open Go Go.AL
set_option linter.unusedSectionVars false
variable [Go.AL.Mode]
set_option linter.unusedSimpArgs false
set_option linter.unusedVariables false
def objN (n : Nat) (o : AL.Obj) : Prop:=match o.st with
  | none=>True
  | some (.arr e sz rows)=>∀ r ∈ rows,r.length = sz ∧ V.allUnder n r = true
  | some (.mp m)=>(∀ p ∈ m.rows,p.1.under n = true ∧ p.2.under n = true ∧ isKV m.kd p.1 = true) ∧ ∀ of p,m.x = .iter of (some p) → p.1.under n = true ∧ p.2.under n = true
theorem neat_iff {S : Store} : Neat S ↔ ∀ o ∈ S,objN S.length o:=by
  constructor
  · intro h o ho
    obtain ⟨id,hid⟩:=List.getElem?_of_mem ho
    obtain ⟨ver,st⟩:=o
    cases st with
    | none=>trivial
    | some ct =>
      cases ct with
      | arr e sz rows=>exact h.1 id ver e sz rows hid
      | mp m=>exact h.2 id ver m hid
  · intro h
    refine ⟨fun id ver e sz rows hid=>?_,fun id ver m hid=>?_⟩
    · exact h _ (List.mem_of_getElem? hid)
    · exact h _ (List.mem_of_getElem? hid)
theorem objN.self {S S1 : Store} {o : AL.Obj} (h : objN S1.length o) : objF S S1 o o.st:=by
  obtain ⟨ver,st⟩:=o
  cases st with
  | none=>trivial
  | some ct =>
    cases ct with
    | arr e sz rows=>exact ⟨rows,rfl,.under h⟩
    | mp m =>
      refine ⟨m,rfl,.same fun of p hp=>.inl (h.2 of p hp),rfl,rfl,fun p hp=>(h.1 p hp).2.2,fun i p1 p h1 h2=>?_⟩
      rw[h1] at h2
      cases h2
      obtain ⟨k1,k2,_⟩:=h.1 p1 (List.mem_of_getElem? h1)
      exact ⟨.same (.inl k1),.same (.inl k2)⟩
end Go.Proofs.YtanmnoipikdplaaGreat
