/- Timetables, plainly: codes, periods, zones, flights, segments. Periods: the leaves of both sides. Contracts of the period's leaves, said of memory. -/
import Derived.Test.YtiihkfjbllpiaaaGreatDoorWAlM
import Derived.Test.YtiihkfjbllpiaaaGreatDoorWScaC
import Derived.Below
import Derived.Test.YtiihkfjbllpiaaaGreatDoorWAlB
import Derived.Test.YtiihkfjbllpiaaaGreatDoorWAlW
namespace Go.Proofs.YtiihkfjbllpiaaaGreatDoor
open Go Go.AL
set_option linter.unusedSectionVars false
variable [Go.AL.Mode] [Go.AL.LooseM]
set_option linter.unusedSimpArgs false
set_option linter.unusedVariables false
abbrev Txt:=List UInt8
structure Apt where
  code : Txt
  city : Txt
  cty : Txt
  off : Int
  sh : List (Int × Int)
  deriving DecidableEq,Inhabited
structure Dst where
  fr : Txt
  to : Txt
  mi : Int
  deriving DecidableEq,Inhabited
abbrev Pls:=List Apt × List Dst
structure Pd where
  f : Int
  t : Int
  d : Int
  deriving DecidableEq,Inhabited
structure Lg where
  f : Txt
  t : Txt
  dep : Int
  arr : Int
  eq : Txt
  deriving DecidableEq,Inhabited
structure Fl where
  c : Txt
  n : Int
  p : Pd
  legs : List Lg
  deriving DecidableEq,Inhabited
structure Dt where
  c : Txt
  n : Int
  day : Int
  f : Txt
  t : Txt
  dep : Int
  arr : Int
  eq : Txt
  deriving DecidableEq,Inhabited
structure Sg where
  c : Txt
  n : Int
  day : Int
  f : Txt
  t : Txt
  dep : Int
  arr : Int
  deriving DecidableEq,Inhabited
structure Sr where
  c : Txt
  n : Int
  p : Pd
  oc : Txt
  oas : Int
  f : Txt
  t : Txt
  deriving DecidableEq,Inhabited
structure Ft where
  err : Int
  at_ : Txt
  deriving DecidableEq,Inhabited
structure Id where
  c : Txt
  n : Int
  day : Int
  f : Txt
  deriving DecidableEq,Inhabited
def shR (p : Int × Int) : List V:=[.int .i64 p.1,.int .i64 p.2]
def aptR (a : Apt) : List V:=[.str a.code,.str a.city,.str a.cty,.int .i64 a.off,.sl 2 (a.sh.map shR)]
def dstR (d : Dst) : List V:=[.str d.fr,.str d.to,.int .i64 d.mi]
def plV (p : Pls) : V:=.agg [.sl 5 (p.1.map aptR),.sl 3 (p.2.map dstR)]
def pdR (p : Pd) : List V:=[.int .i64 p.f,.int .i64 p.t,.int .i64 p.d]
def lgR (l : Lg) : List V:=[.str l.f,.str l.t,.int .i64 l.dep,.int .i64 l.arr,.str l.eq]
def flR (x : Fl) : List V:=[.str x.c,.int .i64 x.n,.int .i64 x.p.f,.int .i64 x.p.t,.int .i64 x.p.d,.sl 5 (x.legs.map lgR)]
def dtR (x : Dt) : List V:=[.str x.c,.int .i64 x.n,.int .i64 x.day,.str x.f,.str x.t,.int .i64 x.dep,.int .i64 x.arr,.str x.eq]
def sgR (x : Sg) : List V:=[.str x.c,.int .i64 x.n,.int .i64 x.day,.str x.f,.str x.t,.int .i64 x.dep,.int .i64 x.arr]
def ftR (x : Ft) : List V:=[.int .i64 x.err,.str x.at_]
def inR (n : Int) : List V:=[.int .i64 n]
def up (c : UInt8) : Bool:=decide (65 ≤ c.toNat ∧ c.toNat ≤ 90)
def dig (c : UInt8) : Bool:=decide (48 ≤ c.toNat ∧ c.toNat ≤ 57)
def codeF (s : Txt) (a b : Nat) : Bool:=decide (a ≤ s.length ∧ s.length ≤ b) && s.all fun c=>up c || dig c
def carF (s : Txt) : Bool:=codeF s 2 2 && !s.all dig
def pdF (p : Pd) : Int:=if p.f < 0 ∨ p.t < p.f ∨ 36525 ≤ p.t then 12 else if 800 ≤ p.t - p.f then 4 else if p.d < 1 ∨ 127 < p.d then 2 else 0
def wday (d : Int) : Nat:=((d % 7 + 12) % 7).toNat
def onF (ds d : Int) : Bool:=decide (ds / 2 ^ wday d % 2 = 1)
def hasF (p : Pd) (d : Int) : Bool:=decide (pdF p = 0 ∧ p.f ≤ d ∧ d ≤ p.t) && onF p.d d
def daysF (p : Pd) : List Int:=if pdF p = 0 then ((List.range (p.t - p.f + 1).toNat).map fun k=>p.f + (k : Nat)).filter (onF p.d) else []
def meetF (a b : Pd) : Bool:=(daysF a).any (hasF b)
def w64 (n : Int) : Int:=IntKind.i64.wrap n
def utcG : Int → List (Int × Int) → Int → Int
  | u,[],_=>u
  | u,s :: r,local_=>if u < s.1 then u else utcG (max s.1 (w64 (local_ - s.2))) r local_
def utcF (off : Int) (sh : List (Int × Int)) (m : Int) : Int:=utcG (w64 (m - off)) sh m
def findF (p : Pls) (c : Txt) : Option Apt:=p.1.find? fun a=>decide (a.code = c)
def atF (p : Pls) (c : Txt) (day m : Int) : Int:=match findF p c with
  | some a=>utcF a.off a.sh (w64 (w64 (day * 1440) + m))
  | none=>utcF 0 [] (w64 (w64 (day * 1440) + m))
def datF (p : Pls) (x : Fl) (day : Int) (l : Lg) : Dt:=⟨x.c,x.n,day,l.f,l.t,atF p l.f day l.dep,atF p l.t day l.arr,l.eq⟩
def legsF (p : Pls) (x : Fl) (day : Int) : List Dt:=x.legs.map (datF p x day)
def segOf (a b : Dt) : Sg:=⟨a.c,a.n,a.day,a.f,b.t,a.dep,b.arr⟩
def segsL : List Dt → List Sg
  | []=>[]
  | a :: l=>(a :: l).map (segOf a) ++ segsL l
def onL (l : List Fl) (c : Txt) (n day : Int) : Option Fl:=l.find? fun x=>decide (x.c = c) && (decide (x.n = n) && hasF x.p day)
def segF (p : Pls) (l : List Fl) (c : Txt) (n day : Int) (f t : Txt) : Sg × Int:=match onL l c n day with
  | none=>(⟨[],0,0,[],[],0,0⟩,7)
  | some x=>match (segsL (legsF p x day)).find? fun s=>decide (s.f = f) && decide (s.t = t) with
    | some s=>(s,0)
    | none=>(⟨[],0,0,[],[],0,0⟩,14)
def zSg : Sg:=⟨[],0,0,[],[],0,0⟩
theorem dT {p : Prop} [Decidable p] (h : p) : decide p = true:=decide_eq_true h
theorem dF {p : Prop} [Decidable p] (h : ¬ p) : decide p = false:=decide_eq_false h
theorem tmod7 (d : Int) : ((d.tmod 7) + 12).tmod 7 = ((wday d : Nat) : Int) ∧ -6 ≤ d.tmod 7 ∧ d.tmod 7 ≤ 6:=by
  have h1 : d.tmod 7 = d % 7 ∨ d.tmod 7 = d % 7 - 7:=by
    rcases Int.le_total 0 d with h | h
    · exact .inl (Int.tmod_eq_emod_of_nonneg h)
    · have e : d = -(-d):=by omega
      have h2 : d.tmod 7 = -((-d).tmod 7):=by conv=>lhs;rw[e,Int.neg_tmod]
      have h3 : (-d).tmod 7 = (-d) % 7:=Int.tmod_eq_emod_of_nonneg (by omega)
      omega
  have h0 : -6 ≤ d.tmod 7 ∧ d.tmod 7 ≤ 6:=by
    rcases Int.le_total 0 d with h | h
    · have : d.tmod 7 = d % 7:=Int.tmod_eq_emod_of_nonneg h
      omega
    · have e : d = -(-d):=by omega
      have h2 : d.tmod 7 = -((-d).tmod 7):=by conv=>lhs;rw[e,Int.neg_tmod]
      have h3 : (-d).tmod 7 = (-d) % 7:=Int.tmod_eq_emod_of_nonneg (by omega)
      omega
  refine ⟨?_,h0⟩
  rw[Int.tmod_eq_emod_of_nonneg (by omega)]
  unfold wday
  omega
theorem wday_lt (d : Int) : wday d < 7:=by unfold wday;omega
theorem weekday_A (d : Int) (S : Store) : CallA Tryz.prog 147 [.int .i64 d] S fun r S'=>r = .int .i64 (wday d : Nat) ∧ S' = S:=by
  obtain ⟨h1,h2,h3⟩:=tmod7 d
  refine CallA.keep Tryz.func147 c647 (Nat.le_of_ble_eq_true rfl) fun σ hσ=>?_
  have:=wday_lt d
  simp (disch:=first|omega|(simp only[lenT];omega)) only[a647,wrap_i64,h1,↓eA,eB,evU,seval]
theorem rweekday_A (d : Int) (S : Store) : CallA Tryz.prog 151 [.int .i64 d] S fun r S'=>r = .int .i64 (wday d : Nat) ∧ S' = S:=by
  obtain ⟨h1,h2,h3⟩:=tmod7 d
  refine CallA.keep Tryz.func151 c651 (Nat.le_of_ble_eq_true rfl) fun σ hσ=>?_
  have:=wday_lt d
  simp (disch:=first|omega|(simp only[lenT];omega)) only[a651,wrap_i64,h1,↓eA,eB,evU,seval]
theorem check_A (p : Pd) (S : Store) : CallA Tryz.prog 76 [.agg (pdR p)] S fun r S'=>r = .int .i64 (pdF p) ∧ S' = S:=by
  refine CallA.keep Tryz.func76 c576 (Nat.le_of_ble_eq_true rfl) fun σ hσ=>?_
  unfold pdF
  by_cases h1 : p.f < 0
  · simp only[a576,pdR,dT h1,h1,true_or,if_true,evSt,↓eA,eB,evU,seval]
  by_cases h2 : p.t < p.f
  · simp only[a576,pdR,dF h1,dT h2,h1,h2,true_or,or_true,if_true,evSt,↓eA,eB,evU,seval]
  by_cases h3 : 36525 ≤ p.t
  · simp only[a576,pdR,dF h1,dF h2,dT h3,h1,h2,h3,true_or,or_true,if_true,evSt,↓eA,eB,evU,seval]
  by_cases h4 : 800 ≤ p.t - p.f
  · simp (disch:=first|omega|(simp only[lenT];omega)) only[a576,pdR,dF h1,dF h2,dF h3,dT h4,h1,h2,h3,h4,wrap_i64,or_self,if_false,if_true,evSt,↓eA,eB,evU,seval]
  by_cases h5 : p.d < 1
  · simp (disch:=first|omega|(simp only[lenT];omega)) only[a576,pdR,dF h1,dF h2,dF h3,dF h4,dT h5,h1,h2,h3,h4,h5,wrap_i64,or_self,true_or,if_false,if_true,evSt,↓eA,eB,evU,seval]
  by_cases h6 : 127 < p.d
  · simp (disch:=first|omega|(simp only[lenT];omega)) only[a576,pdR,dF h1,dF h2,dF h3,dF h4,dF h5,dT h6,h1,h2,h3,h4,h5,h6,wrap_i64,or_self,or_true,if_false,if_true,evSt,↓eA,eB,evU,seval]
  simp (disch:=first|omega|(simp only[lenT];omega)) only[a576,pdR,dF h1,dF h2,dF h3,dF h4,dF h5,dF h6,h1,h2,h3,h4,h5,h6,wrap_i64,or_self,if_false,evSt,↓eA,eB,evU,seval]
theorem rcheck_A (p : Pd) (S : Store) : CallA Tryz.prog 113 [.agg (pdR p)] S fun r S'=>r = .int .i64 (pdF p) ∧ S' = S:=by
  refine CallA.keep Tryz.func113 c613 (Nat.le_of_ble_eq_true rfl) fun σ hσ=>?_
  unfold pdF
  by_cases h1 : p.f < 0
  · simp only[a613,pdR,dT h1,h1,true_or,if_true,evSt,↓eA,eB,evU,seval]
  by_cases h2 : p.t < p.f
  · simp only[a613,pdR,dF h1,dT h2,h1,h2,true_or,or_true,if_true,evSt,↓eA,eB,evU,seval]
  by_cases h3 : 36525 ≤ p.t
  · simp only[a613,pdR,dF h1,dF h2,dT h3,h1,h2,h3,true_or,or_true,if_true,evSt,↓eA,eB,evU,seval]
  by_cases h4 : 800 ≤ p.t - p.f
  · simp (disch:=first|omega|(simp only[lenT];omega)) only[a613,pdR,dF h1,dF h2,dF h3,dT h4,h1,h2,h3,h4,wrap_i64,or_self,if_false,if_true,evSt,↓eA,eB,evU,seval]
  by_cases h5 : p.d < 1
  · simp (disch:=first|omega|(simp only[lenT];omega)) only[a613,pdR,dF h1,dF h2,dF h3,dF h4,dT h5,h1,h2,h3,h4,h5,wrap_i64,or_self,true_or,if_false,if_true,evSt,↓eA,eB,evU,seval]
  by_cases h6 : 127 < p.d
  · simp (disch:=first|omega|(simp only[lenT];omega)) only[a613,pdR,dF h1,dF h2,dF h3,dF h4,dF h5,dT h6,h1,h2,h3,h4,h5,h6,wrap_i64,or_self,or_true,if_false,if_true,evSt,↓eA,eB,evU,seval]
  simp (disch:=first|omega|(simp only[lenT];omega)) only[a613,pdR,dF h1,dF h2,dF h3,dF h4,dF h5,dF h6,h1,h2,h3,h4,h5,h6,wrap_i64,or_self,if_false,evSt,↓eA,eB,evU,seval]
theorem pd_ok {p : Pd} (h : pdF p = 0) : 0 ≤ p.f ∧ p.f ≤ p.t ∧ p.t < 36525 ∧ p.t - p.f < 800 ∧ 1 ≤ p.d ∧ p.d ≤ 127:=by
  unfold pdF at h
  split at h
  · cases h
  · split at h
    · cases h
    · split at h
      · cases h
      · omega
theorem on_bits : ∀ m : Nat,m < 128 → IntKind.i64.wrap ((BitVec.ofInt IntKind.i64.bits (m : Int) &&& BitVec.ofInt IntKind.i64.bits 1).toNat : Nat) = (m : Int) % 2:=by decide +kernel
theorem shr_A (d : Int) {k : Nat} (hk : k < 7) : shiftV false .i64 d (k : Nat) = some (.int .i64 (d / 2 ^ k)):=by
  have e : min ((k : Int).toNat) IntKind.i64.bits = k:=by
    have : IntKind.i64.bits = 64:=rfl
    rw[this];omega
  unfold shiftV
  rw[if_pos (by omega),e,Int.fdiv_eq_ediv_of_nonneg _ (Int.pow_nonneg (by decide))]
  rfl
theorem div_small {d : Int} (h0 : 0 ≤ d) (h1 : d ≤ 127) (k : Nat) : 0 ≤ d / 2 ^ k ∧ d / 2 ^ k ≤ 127:=by
  have hp : (0 : Int) < 2 ^ k:=Int.pow_pos (by decide)
  refine ⟨Int.ediv_nonneg h0 (by omega),?_⟩
  have:=Int.ediv_le_self (2 ^ k) h0
  omega
theorem on_A (d : Int) (h0 : 1 ≤ d) (h1 : d ≤ 127) (day : Int) (S : Store) : CallA Tryz.prog 107 [.int .i64 d,.int .i64 day] S fun r S'=>r = .bool (onF d day) ∧ S' = S:=by
  refine CallA.keep Tryz.func107 c607 (Nat.le_of_ble_eq_true rfl) fun σ hσ=>?_
  simp only[a607,↓eA,eB,evU,seval]
  refine (weekday_A day S).then ?_
  obtain ⟨m,hm⟩:=Int.eq_ofNat_of_zero_le (div_small (by omega) h1 (wday day)).1
  have hb:=on_bits m (by have:=(div_small (by omega : 0 ≤ d) h1 (wday day)).2;omega)
  simp (disch:=first|omega|(simp only[lenT];omega)) only[shr_A d (wday_lt day),hm,hb,↓eA,eB,evU,seval]
  simp only[onF,hm,and_self]
theorem pow2_small {k : Nat} (hk : k ≤ 7) : (1 : Int) ≤ 2 ^ k ∧ (2 : Int) ^ k ≤ 128:=by
  match k,hk with
  | 0,_=>decide
  | 1,_=>decide
  | 2,_=>decide
  | 3,_=>decide
  | 4,_=>decide
  | 5,_=>decide
  | 6,_=>decide
  | 7,_=>decide
theorem bit_A (d : Int) (S : Store) : CallA Tryz.prog 114 [.int .i64 d] S fun r S'=>r = .int .i64 (2 ^ wday d) ∧ S' = S:=by
  refine CallA.keep Tryz.func114 c614 (Nat.le_of_ble_eq_true rfl) fun σ hσ=>?_
  have hw:=wday_lt d
  simp only[a614,↓eA,eB,evU,seval]
  refine loopA (ι:=Nat) (fun k=>[(0,.int .i64 d),(3,.int .i64 (2 ^ k)),(4,.int .i64 (k : Nat))]) (fun _=>S) (fun k=>k ≤ wday d) (fun k=>wday d - k) 0 (Nat.zero_le _) ?_ rfl ?_
  · simp only[↓eA,eB,evU,seval]
    try rfl
  intro k hk
  simp only[↓eA,eB,evU,seval]
  refine (rweekday_A d S).then ?_
  by_cases h : k < wday d
  · have hlt : (k : Int) < (wday d : Nat):=by omega
    have hp:=pow2_small (k:=k) (by omega)
    have e : (2 : Int) * 2 ^ k = 2 ^ (k + 1):=by rw[Int.pow_succ,Int.mul_comm]
    have hp':=pow2_small (k:=k + 1) (by omega)
    have hk1 : (k : Int) + 1 = ((k + 1 : Nat) : Int):=by omega
    simp (disch:=first|omega|(simp only[lenT];omega)) only[dT hlt,wrap_i64,e,hk1,↓eA,eB,evU,seval]
    exact ⟨k + 1,by omega,by omega,rfl,rfl⟩
  · have hge : ¬ (k : Int) < (wday d : Nat):=by omega
    have e : k = wday d:=by omega
    simp (disch:=first|omega|(simp only[lenT];omega)) only[dF hge,e,↓eA,eB,evU,seval]
theorem has_A (p : Pd) (day : Int) (S : Store) : CallA Tryz.prog 56 [.agg (pdR p),.int .i64 day] S fun r S'=>r = .bool (hasF p day) ∧ S' = S:=by
  refine CallA.keep Tryz.func56 c556 (Nat.le_of_ble_eq_true rfl) fun σ hσ=>?_
  simp only[a556,pdR,evSt,↓eA,eB,evU,seval]
  refine (check_A p S).then ?_
  unfold hasF
  by_cases h1 : pdF p = 0
  · by_cases h2 : p.f ≤ day
    · by_cases h3 : day ≤ p.t
      · simp only[dT h1,dT h2,dT h3,h1,h2,h3,evSt,↓eA,eB,evU,seval]
        refine (on_A p.d (pd_ok h1).2.2.2.2.1 (pd_ok h1).2.2.2.2.2 day S).then ?_
        simp only[and_self,decide_true,Bool.true_and,evSt,↓eA,eB,evU,seval]
      · simp only[dT h1,dT h2,dF h3,h1,h2,h3,and_false,decide_false,Bool.false_and,evSt,↓eA,eB,evU,seval]
    · simp only[dT h1,dF h2,h1,h2,and_false,false_and,decide_false,Bool.false_and,evSt,↓eA,eB,evU,seval]
  · simp only[dF h1,h1,false_and,decide_false,Bool.false_and,evSt,↓eA,eB,evU,seval]
theorem rhas_A (p : Pd) (day : Int) (S : Store) : CallA Tryz.prog 64 [.agg (pdR p),.int .i64 day] S fun r S'=>r = .bool (hasF p day) ∧ S' = S:=by
  refine CallA.keep Tryz.func64 c564 (Nat.le_of_ble_eq_true rfl) fun σ hσ=>?_
  simp only[a564,pdR,evSt,↓eA,eB,evU,seval]
  refine (rcheck_A p S).then ?_
  unfold hasF
  by_cases h1 : pdF p = 0
  · by_cases h2 : p.f ≤ day
    · by_cases h3 : day ≤ p.t
      · have hp:=pow2_small (k:=wday day) (Nat.le_of_lt (wday_lt day))
        have hd:=pd_ok h1
        have hb:=div_small (d:=p.d) (by omega) (by omega) (wday day)
        have he : p.d.tdiv (2 ^ wday day) = p.d / 2 ^ wday day:=Int.tdiv_eq_ediv_of_nonneg (by omega)
        have hm : (p.d / 2 ^ wday day).tmod 2 = p.d / 2 ^ wday day % 2:=Int.tmod_eq_emod_of_nonneg hb.1
        have hne : ((2 : Int) ^ wday day) ≠ 0:=by omega
        simp only[dT h1,dT h2,dT h3,h1,h2,h3,evSt,↓eA,eB,evU,seval]
        refine exD.intro (bit_A day S) ?_
        simp (disch:=first|omega|(simp only[lenT];omega)) only[hne,ne_eq,not_false_eq_true,he,hm,wrap_i64,evSt,↓eA,eB,evU,seval]
        simp only[onF,and_self,decide_true,Bool.true_and]
      · simp only[dT h1,dT h2,dF h3,h1,h2,h3,and_false,decide_false,Bool.false_and,evSt,↓eA,eB,evU,seval]
    · simp only[dT h1,dF h2,h1,h2,and_false,false_and,decide_false,Bool.false_and,evSt,↓eA,eB,evU,seval]
  · simp only[dF h1,h1,false_and,decide_false,Bool.false_and,evSt,↓eA,eB,evU,seval]
theorem inv_none {W : World} (ht : TabOk noPlace [] W) : Inv noPlace [] W :=
  ⟨fun id ver e sz rows hs=>by simp at hs,fun i j o p c d g x y ho=>by simp at ho,fun id ver rows hs=>by simp at hs,ht⟩
theorem grown_ext {W W' : World} {ρ' : AL.Place} {S' : Store} (hx : Ext noPlace [] W ρ' S' W') : W.grownBy W' none :=
  ⟨hx.os,hx.tape.1,hx.output,hx.size,fun k hk _=>(hx.un k (un_none hk)).2⟩
theorem tab_keep {n₀ : Nat} {W W' : World} (h : TabOk noPlace [] W) (hn : ∀ p ∈ tabs,p.1 < n₀) (hb : RowKit.Below n₀ W W') : TabOk noPlace [] W':=fun p hp=>by
  obtain ⟨h1,t,fr,h2⟩:=h p hp
  exact ⟨⟨Nat.lt_of_lt_of_le h1.1 hb.size,fun id o c g' tot ho=>by simp at ho⟩,t,fr,(hb.block p.1 (hn p hp)).trans h2⟩
theorem tab_lt {ρ : AL.Place} {S : Store} {W : World} (h : TabOk ρ S W) : ∀ p ∈ tabs,p.1 < W.heap.size:=fun p hp=>(h p hp).1.1
theorem tab_none {ρ : AL.Place} {S : Store} {W : World} (h : TabOk ρ S W) : TabOk noPlace [] W:=fun p hp=>⟨un_none (h p hp).1.1,(h p hp).2⟩
theorem raw_int {f : FuncId} {vs : List V} {us : Array Value} {m : Int} {k : Nat} (h : CallA Tryz.prog f vs [] fun r S'=>r = .int .i64 m ∧ S' = []) (W : World) (ht : TabOk noPlace [] W) (hv : VRs noPlace [] W vs us) :
    CallsIn Fence.wide k Tryz.prog f us W fun e W'=>e = .returned (.int .i64 m) ∧ W.grownBy W' none:=by
  refine callsIn_wide.2 ((h.2 noPlace W us (inv_none ht) hv).mono ?_)
  rintro en w' ⟨ρ',S',r,u,rfl,hr,_,hx,rfl,rfl⟩
  cases hr
  exact ⟨rfl,grown_ext hx⟩
theorem raw_bool {f : FuncId} {vs : List V} {us : Array Value} {m : Bool} {k : Nat} (h : CallA Tryz.prog f vs [] fun r S'=>r = .bool m ∧ S' = []) (W : World) (ht : TabOk noPlace [] W) (hv : VRs noPlace [] W vs us) :
    CallsIn Fence.wide k Tryz.prog f us W fun e W'=>e = .returned (.bool m) ∧ W.grownBy W' none:=by
  refine callsIn_wide.2 ((h.2 noPlace W us (inv_none ht) hv).mono ?_)
  rintro en w' ⟨ρ',S',r,u,rfl,hr,_,hx,rfl,rfl⟩
  cases hr
  exact ⟨rfl,grown_ext hx⟩
def pdU (p : Pd) : Value:=.agg #[.int .i64 p.f,.int .i64 p.t,.int .i64 p.d]
theorem pdU_VR (p : Pd) {ρ : AL.Place} {S : Store} {W : World} {b : Bool} : VR ρ S W b (.agg (pdR p)) (pdU p):=by
  refine VR.agg (fun i=>match i with | 0=>.int .i64 p.f | 1=>.int .i64 p.t | _=>.int .i64 p.d) rfl (fun i v hv=>?_) (fun i v hv=>?_)
  · match i,hv with
    | 0,hv=>rfl
    | 1,hv=>rfl
    | 2,hv=>rfl
  · match i,hv with
    | 0,hv=>cases hv;exact .int
    | 1,hv=>cases hv;exact .int
    | 2,hv=>cases hv;exact .int
theorem check_in (p : Pd) (k : Nat) (W : World) (ht : TabOk noPlace [] W) : CallsIn Fence.wide k Tryz.prog 76 #[.agg #[.int .i64 p.f,.int .i64 p.t,.int .i64 p.d]] W fun e W'=>e = .returned (.int .i64 (pdF p)) ∧ W.grownBy W' none :=
  raw_int (check_A p []) W ht ⟨rfl,fun i v hv=>match i,hv with
    | 0,hv=>by cases hv;exact ⟨_,rfl,pdU_VR p⟩⟩
theorem on_in (d day : Int) (h0 : 1 ≤ d) (h1 : d ≤ 127) (k : Nat) (W : World) (ht : TabOk noPlace [] W) : CallsIn Fence.wide k Tryz.prog 107 #[.int .i64 d,.int .i64 day] W fun e W'=>e = .returned (.bool (onF d day)) ∧ W.grownBy W' none :=
  raw_bool (on_A d h0 h1 day []) W ht ⟨rfl,fun i v hv=>match i,hv with
    | 0,hv=>by cases hv;exact ⟨_,rfl,.int⟩
    | 1,hv=>by cases hv;exact ⟨_,rfl,.int⟩⟩
theorem weekday_in (day : Int) (k : Nat) (W : World) (ht : TabOk noPlace [] W) : CallsIn Fence.wide k Tryz.prog 147 #[.int .i64 day] W fun e W'=>e = .returned (.int .i64 (wday day : Nat)) ∧ W.grownBy W' none :=
  raw_int (weekday_A day []) W ht ⟨rfl,fun i v hv=>match i,hv with
    | 0,hv=>by cases hv;exact ⟨_,rfl,.int⟩⟩
def daysTo (p : Pd) (k : Nat) : List Int:=((List.range k).map fun i=>p.f + (i : Nat)).filter (onF p.d)
theorem daysTo_succ (p : Pd) (k : Nat) : daysTo p (k + 1) = if onF p.d (p.f + (k : Nat)) then daysTo p k ++ [p.f + (k : Nat)] else daysTo p k:=by
  unfold daysTo
  rw[List.range_succ,List.map_append,List.filter_append]
  by_cases h : onF p.d (p.f + (k : Nat)) = true
  · simp [h]
  · simp [h]
theorem daysF_eq {p : Pd} (h : pdF p = 0) : daysF p = daysTo p (p.t - p.f + 1).toNat:=by unfold daysF daysTo;rw[if_pos h]
theorem daysTo_len (p : Pd) (k : Nat) : (daysTo p k).length ≤ k:=by
  unfold daysTo
  exact Nat.le_trans (List.length_filter_le _ _) (by simp)
theorem daysTo_mono (p : Pd) {j k : Nat} (h : j ≤ k) : (daysTo p j).length ≤ (daysTo p k).length:=by
  induction k with
  | zero => obtain rfl : j = 0 := by omega
            exact Nat.le_refl _
  | succ k ih =>
    by_cases e : j = k + 1
    · rw[e];exact Nat.le_refl _
    · refine Nat.le_trans (ih (by omega)) ?_
      rw[daysTo_succ]
      split<;>simp
theorem daysTo_lt (p : Pd) {k K : Nat} (h : k < K) (ho : onF p.d (p.f + (k : Nat)) = true) : (daysTo p k).length < (daysTo p K).length:=by
  have:=daysTo_mono p (j:=k + 1) (k:=K) h
  rw[daysTo_succ,if_pos ho] at this
  simp at this
  omega
end Go.Proofs.YtiihkfjbllpiaaaGreatDoor
