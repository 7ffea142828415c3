/- Component, plainly: conditions, trips, fares, tariffs. -/
import Derived.Test.YtanmnoipikdplaaGreatWCsA
import Derived.Test.YtanmnoipikdplaaGreatWAlB
namespace Go.Proofs.YtanmnoipikdplaaGreat
open Go Go.AL
set_option linter.unusedSectionVars false
variable [Go.AL.Mode]
set_option linter.unusedSimpArgs false
set_option linter.unusedVariables false
def txR (s : Txt) : List V:=[.str s]
inductive Cnd where
  | mk (k : Int) (l : List Cnd) (a b : Int) (p : Pd) (tx : List Txt)
mutual
def Cnd.row : Cnd → List V
  | .mk k l a b p tx=>[.int .i64 k,.sl 8 (Cnd.rows l),.int .i64 a,.int .i64 b,.int .i64 p.f,.int .i64 p.t,.int .i64 p.d,.sl 1 (tx.map txR)]
def Cnd.rows : List Cnd → List (List V)
  | []=>[]
  | c :: l=>c.row :: Cnd.rows l
end
theorem Cnd.rows_eq : ∀ l : List Cnd,Cnd.rows l = l.map Cnd.row
  | []=>rfl
  | c :: l=>by rw[Cnd.rows,Cnd.rows_eq l];rfl
structure Trp where
  ty : Txt
  sale : Int
  day : Int
  min : Int
  stops : Int
  trans : Int
  cars : List Txt
  nums : List Int
  vias : List Txt
def trpR (t : Trp) : List V:=[.str t.ty,.int .i64 t.sale,.int .i64 t.day,.int .i64 t.min,.int .i64 t.stops,.int .i64 t.trans,.sl 1 (t.cars.map txR),.sl 1 (t.nums.map inR),.sl 1 (t.vias.map txR)]
structure Wnt where
  s : Sg
  cl : Txt
def wntR (w : Wnt) : List V:=sgR w.s ++ [.str w.cl]
structure Fr where
  c : Txt
  f : Txt
  t : Txt
  bas : Txt
  cl : Txt
  rnd : Bool
  am : Int
  rule : Int
  rout : Int
def frR (f : Fr) : List V:=[.str f.c,.str f.f,.str f.t,.str f.bas,.str f.cl,.bool f.rnd,.int .i64 f.am,.int .i64 f.rule,.int .i64 f.rout]
structure Rul where
  n : Int
  w : Cnd
  comb : List Int
  mn : Int
  mx : Int
  ch : Int
  rf : Int
  per : List (Txt × Int)
def perR (p : Txt × Int) : List V:=[.str p.1,.int .i64 p.2]
def rulR (r : Rul) : List V:=[.int .i64 r.n] ++ (r.w.row ++ [.sl 1 (r.comb.map inR),.int .i64 r.mn,.int .i64 r.mx,.int .i64 r.ch,.int .i64 r.rf,.sl 2 (r.per.map perR)])
structure Rou where
  n : Int
  links : List (Txt × Txt)
  mi : Int
def lnkR (p : Txt × Txt) : List V:=[.str p.1,.str p.2]
def rouR (r : Rou) : List V:=[.int .i64 r.n,.sl 2 (r.links.map lnkR),.int .i64 r.mi]
mutual
def Cnd.holds (t : Trp) : Cnd → Bool
  | .mk k l a b p tx =>
    if k = 1 then true else if k = 2 then Cnd.allH t l else if k = 3 then Cnd.anyH t l else if k = 4 then !Cnd.allH t l
    else if k = 5 then hasF p t.day else if k = 6 then hasF p t.sale else if k = 7 then decide (a ≤ IntKind.i64.wrap (t.day - t.sale))
    else if k = 8 then (if a ≤ b then decide (a ≤ t.min) && decide (t.min ≤ b) else decide (a ≤ t.min) || decide (t.min ≤ b))
    else if k = 9 then decide (t.stops ≤ a) else if k = 10 then decide (t.trans ≤ a)
    else if k = 11 then t.cars.all fun s=>tx.contains s else if k = 12 then t.nums.all fun n=>decide (a ≤ n) && decide (n ≤ b)
    else if k = 13 then t.vias.all fun s=>tx.contains s else if k = 14 then tx.contains t.ty else false
def Cnd.allH (t : Trp) : List Cnd → Bool
  | []=>true
  | c :: l=>c.holds t && Cnd.allH t l
def Cnd.anyH (t : Trp) : List Cnd → Bool
  | []=>false
  | c :: l=>c.holds t || Cnd.anyH t l
end
theorem Cnd.allH_eq (t : Trp) : ∀ l : List Cnd,Cnd.allH t l = l.all (Cnd.holds t)
  | []=>rfl
  | c :: l=>by rw[Cnd.allH,Cnd.allH_eq t l];rfl
theorem Cnd.anyH_eq (t : Trp) : ∀ l : List Cnd,Cnd.anyH t l = l.any (Cnd.holds t)
  | []=>rfl
  | c :: l=>by rw[Cnd.anyH,Cnd.anyH_eq t l];rfl
mutual
def Cnd.right : Cnd → Prop
  | .mk k l _ _ _ _=>1 ≤ k ∧ k ≤ 14 ∧ (k = 4 → l.length = 1) ∧ Cnd.rightL l
def Cnd.rightL : List Cnd → Prop
  | []=>True
  | c :: l=>c.right ∧ Cnd.rightL l
end
theorem Cnd.rightL_all : ∀ l : List Cnd,Cnd.rightL l ↔ ∀ c ∈ l,c.right
  | []=>by simp [Cnd.rightL]
  | c :: l=>by simp [Cnd.rightL,Cnd.rightL_all l]
mutual
theorem Cnd.ind {Q : Cnd → Prop} (h : ∀ k l a b p tx,(∀ c ∈ l,Q c) → Q (.mk k l a b p tx)) : ∀ c,Q c
  | .mk k l a b p tx=>h k l a b p tx (Cnd.indL h l)
theorem Cnd.indL {Q : Cnd → Prop} (h : ∀ k l a b p tx,(∀ c ∈ l,Q c) → Q (.mk k l a b p tx)) : ∀ (l : List Cnd),∀ c ∈ l,Q c
  | [],c,hc=>by cases hc
  | x :: l,c,hc=>match List.mem_cons.1 hc with
    | .inl e=>e ▸ Cnd.ind h x
    | .inr m=>Cnd.indL h l c m
end
end Go.Proofs.YtanmnoipikdplaaGreat
/- Component,plainly: local times,parts in order. -/
namespace Go.Proofs.YtanmnoipikdplaaGreat
open Go Go.AL
set_option linter.unusedSectionVars false
variable [Go.AL.Mode]
set_option linter.unusedSimpArgs false
set_option linter.unusedVariables false
def offB : Int → List (Int × Int) → Int → Int
  | off,[],_=>off
  | off,s :: l,u=>if u < s.1 then off else offB s.2 l u
def offR : Int → List (Int × Int) → Int → Int
  | off,[],_=>off
  | off,s :: l,u=>offR (if s.1 ≤ u then s.2 else off) l u
def ShOrd (l : List (Int × Int)) : Prop:=l.Pairwise fun a b=>a.1 < b.1
theorem offR_late : ∀ (l : List (Int × Int)) (off u : Int),(∀ s ∈ l,u < s.1) → offR off l u = off
  | [],_,_,_=>rfl
  | s :: l,off,u,h=>by
    have h1:=h s (.head _)
    rw[offR,if_neg (by omega)]
    exact offR_late l off u fun x hx=>h x (.tail _ hx)
theorem off_same : ∀ (l : List (Int × Int)) (off u : Int),ShOrd l → offB off l u = offR off l u
  | [],_,_,_=>rfl
  | s :: l,off,u,h=>by
    obtain ⟨h1,h2⟩:=List.pairwise_cons.1 h
    rw[offB,offR]
    by_cases hu : u < s.1
    · rw[if_pos hu,if_neg (by omega),offR_late l off u fun x hx=>by have:=h1 x hx;omega]
    · rw[if_neg hu,if_pos (by omega)]
      exact off_same l s.2 u h2
def splitF (m : Int) : Int × Int:=(m / 1440,m % 1440)
structure Prt where
  to : Int
  fare : Int
  am : Int
  deriving DecidableEq
def prtR (x : Prt) : List V:=[.int .i64 0,.int .i64 x.to,.int .i64 x.fare,.int .i64 x.am]
def ltP (x y : Prt) : Bool:=decide (x.am < y.am ∨ (x.am = y.am ∧ x.fare < y.fare))
def SrtP (l : List Prt) : Prop:=l.Pairwise fun a b=>ltP b a = false
theorem ltP_asymm {x y : Prt} (h : ltP x y = true) : ltP y x = false:=by
  simp only[ltP,decide_eq_true_eq,decide_eq_false_iff_not] at *
  omega
theorem ltP_trans {x y z : Prt} (h1 : ltP y x = false) (h2 : ltP z y = false) : ltP z x = false:=by
  simp only[ltP,decide_eq_false_iff_not] at *
  omega
theorem ltP_tri {x y : Prt} (h1 : ltP x y = false) (h2 : ltP y x = false) : x.am = y.am ∧ x.fare = y.fare:=by
  simp only[ltP,decide_eq_false_iff_not] at *
  omega
theorem srtP_unique {K L M : List Prt} (hK : ∀ x ∈ K,∀ y ∈ K,x.fare = y.fare → x = y) (hL : SrtP L) (hM : SrtP M) (h1 : L.Perm K) (h2 : M.Perm K) : L = M:=by
  refine List.Perm.eq_of_pairwise (fun a b ha hb g1 g2=>?_) hL hM (h1.trans h2.symm)
  exact hK a (h1.mem_iff.1 ha) b (h2.mem_iff.1 hb) (ltP_tri g2 g1).2
theorem insP_ok {L : List Prt} {x : Prt} {k : Nat} (hx : ∀ y ∈ L,y.fare < x.fare) (h1 : ∀ y ∈ L.take k,y.am ≤ x.am) (h2 : ∀ y,L[k]? = some y → x.am < y.am) (hs : SrtP L) : SrtP (L.take k ++ x :: L.drop k) ∧ (L.take k ++ x :: L.drop k).Perm (x :: L):=by
  constructor
  · have hs' : (L.take k ++ L.drop k).Pairwise fun a b=>ltP b a = false:=by rw[List.take_append_drop];exact hs
    unfold SrtP
    rw[List.pairwise_append] at hs' ⊢
    obtain ⟨a,b,c⟩:=hs'
    have hge : ∀ y ∈ L.drop k,x.am < y.am:=by
      intro y hy
      obtain ⟨j,hj⟩:=List.getElem?_of_mem hy
      rw[List.getElem?_drop] at hj
      have hlt:=(List.getElem?_eq_some_iff.1 hj).1
      obtain ⟨z,hz⟩ : ∃ z,L[k]? = some z:=⟨_,List.getElem?_eq_getElem (by omega)⟩
      have h3:=h2 z hz
      by_cases h0 : j = 0
      · subst h0
        rw[Nat.add_zero,hz] at hj
        cases hj
        exact h3
      · obtain ⟨p1,rfl⟩:=List.getElem?_eq_some_iff.1 hz
        obtain ⟨p2,rfl⟩:=List.getElem?_eq_some_iff.1 hj
        have:=List.pairwise_iff_getElem.1 hs k (k + j) p1 p2 (by omega)
        simp only[ltP,decide_eq_false_iff_not] at this
        omega
    refine ⟨a,List.pairwise_cons.2 ⟨fun y hy=>?_,b⟩,fun u hu w hw=>?_⟩
    · have:=hge y hy
      simp only[ltP,decide_eq_false_iff_not]
      omega
    · rcases List.mem_cons.1 hw with rfl | hw
      · have q1:=h1 u hu
        have q2:=hx u (List.mem_of_mem_take hu)
        simp only[ltP,decide_eq_false_iff_not]
        omega
      · exact c u hu w hw
  · have:=List.perm_middle (a:=x) (l₁:=L.take k) (l₂:=L.drop k)
    rwa [List.take_append_drop] at this
end Go.Proofs.YtanmnoipikdplaaGreat
