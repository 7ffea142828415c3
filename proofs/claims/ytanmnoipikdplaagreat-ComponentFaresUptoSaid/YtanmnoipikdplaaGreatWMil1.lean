/- Ways: distances are followed until nothing becomes shorter; plain. -/
import Derived.Test.YtanmnoipikdplaaGreatWAlM
import Derived.Test.YtanmnoipikdplaaGreatWCmp1
import Derived.Test.YtanmnoipikdplaaGreatWCmdC
namespace Go.Proofs.YtanmnoipikdplaaGreat.Ml
open Go Go.AL
set_option linter.unusedSectionVars false
variable [Go.AL.Mode]
set_option linter.unusedSimpArgs false
set_option linter.unusedVariables false
def usableF (d : Dst) : Bool:=decide (1 ≤ d.mi) && decide (d.mi ≤ 20000)
abbrev Spots:=List (Txt × Int)
def look : Spots → Txt → Option Int
  | [],_=>none
  | p :: l,c=>if p.1 = c then some p.2 else look l c
def putL : Spots → Txt → Int → Spots
  | [],c,m=>[(c,m)]
  | p :: l,c,m=>if p.1 = c then (p.1,m) :: l else p :: putL l c m
theorem look_put (c : Txt) (m : Int) (b : Txt) : ∀ l : Spots,look (putL l c m) b = if c = b then some m else look l b
  | []=>by simp [putL,look]
  | p :: l=>by
    have ih:=look_put c m b l
    by_cases h : p.1 = c
    · by_cases hb : c = b
      · simp [putL,look,h,hb]
      · have : ¬ p.1 = b:=fun e=>hb (h.symm.trans e)
        simp [putL,look,h,hb]
    · by_cases hb : p.1 = b
      · have : ¬ c = b:=fun e=>h (hb.trans e.symm)
        simp only[putL,if_neg h,look,if_pos hb,if_neg this]
      · simp [putL,look,h,hb,ih]
theorem look_mem {l : Spots} {c : Txt} {v : Int} : look l c = some v → (c,v) ∈ l:=by
  induction l with
  | nil=>intro h;cases h
  | cons p l ih =>
    intro h
    rw[look] at h
    split at h
    · rename_i e
      cases h
      rw[← e]
      exact List.mem_cons_self ..
    · exact List.mem_cons_of_mem _ (ih h)
theorem put_mem {l : Spots} {c : Txt} {m : Int} {p : Txt × Int} : p ∈ putL l c m → p = (c,m) ∨ p ∈ l:=by
  induction l with
  | nil=>intro h;simp [putL] at h;exact .inl h
  | cons q l ih =>
    intro h
    rw[putL] at h
    split at h
    · rename_i e
      rcases List.mem_cons.1 h with h | h
      · rw[e] at h;exact .inl h
      · exact .inr (List.mem_cons_of_mem _ h)
    · rcases List.mem_cons.1 h with h | h
      · exact .inr (by rw[h];exact List.mem_cons_self ..)
      · exact (ih h).imp id (List.mem_cons_of_mem _)
def reachF (l : Spots) (c : Txt) (m : Int) : Spots × Bool:=match look l c with
  | some v=>if v ≤ m then (l,false) else (putL l c m,true)
  | none=>(putL l c m,true)
def relaxF (l : Spots) (x y : Txt) (n : Int) : Spots × Bool:=match look l x with
  | some m=>reachF l y (m + n)
  | none=>(l,false)
def stepF (s : Spots × Bool) (d : Dst) : Spots × Bool :=
  if usableF d then
    let a:=relaxF s.1 d.fr d.to d.mi
    let b:=relaxF a.1 d.to d.fr d.mi
    (b.1,s.2 || a.2 || b.2)
  else s
def roundF (ds : List Dst) (l : Spots) : Spots × Bool:=ds.foldl stepF (l,false)
def refStepF (s : Spots × Bool) (d : Dst) : Spots × Bool :=
  if usableF d then
    let x:=look s.1 d.fr
    let y:=look s.1 d.to
    let a:=match x with
      | some m=>reachF s.1 d.to (m + d.mi)
      | none=>(s.1,false)
    let b:=match y with
      | some m=>reachF a.1 d.fr (m + d.mi)
      | none=>(a.1,false)
    (b.1,s.2 || a.2 || b.2)
  else s
theorem reachF_no {l : Spots} {c : Txt} {m v : Int} (h : look l c = some v) (hv : v ≤ m) : reachF l c m = (l,false):=by
  simp only[reachF,h,hv,if_true]
theorem refStep_eq (s : Spots × Bool) (d : Dst) : refStepF s d = stepF s d:=by
  unfold refStepF stepF
  split
  · rename_i hu
    simp only[usableF,Bool.and_eq_true,decide_eq_true_eq] at hu
    obtain ⟨hu1,hu2⟩:=hu
    simp only[relaxF]
    cases hx : look s.1 d.fr with
    | none =>
      simp only
    | some m =>
      simp only
      cases hy : look s.1 d.to with
      | none =>
        simp only
        have hr : reachF s.1 d.to (m + d.mi) = (putL s.1 d.to (m + d.mi),true):=by simp only[reachF,hy]
        rw[hr]
        simp only[look_put,if_true]
        by_cases e : d.to = d.fr
        · rw[e] at hy
          rw[hy] at hx
          cases hx
        · have h1 : look (putL s.1 d.to (m + d.mi)) d.fr = some m:=by rw[look_put,if_neg e,hx]
          rw[reachF_no h1 (by omega)]
      | some old =>
        simp only
        by_cases ho : old ≤ m + d.mi
        · rw[reachF_no hy ho]
          simp only[hy]
        · have hr : reachF s.1 d.to (m + d.mi) = (putL s.1 d.to (m + d.mi),true):=by simp only[reachF,hy,ho,if_false]
          rw[hr]
          simp only[look_put,if_true]
          by_cases e : d.to = d.fr
          · rw[e,hx] at hy
            cases hy
            exact absurd (show m ≤ m + d.mi by omega) ho
          · have h1 : look (putL s.1 d.to (m + d.mi)) d.fr = some m:=by rw[look_put,if_neg e,hx]
            rw[reachF_no h1 (by omega),reachF_no h1 (by omega)]
  · rfl
def un (N : List Txt) (l : Spots) : Nat:=(N.filter fun c=>(look l c).isNone).length
def InvL (N : List Txt) (l : Spots) : Prop:=(∀ p ∈ l,0 ≤ p.2 ∧ p.2 + 20000 * un N l ≤ 20000 * N.length) ∧ l.length + un N l ≤ N.length + 1
def vals (l : Spots) : Int:=(l.map (·.2)).sum
def rank (N : List Txt) (l : Spots) : Nat:=un N l * (20000 * N.length + 1) + (vals l).toNat
theorem filt_le {p q : Txt → Bool} (h : ∀ x,q x = true → p x = true) : ∀ N : List Txt,(N.filter q).length ≤ (N.filter p).length
  | []=>Nat.le_refl _
  | c :: N=>by
    have ih:=filt_le h N
    cases hq : q c with
    | true=>rw[List.filter_cons_of_pos hq,List.filter_cons_of_pos (h c hq)];simp only[List.length_cons];omega
    | false =>
      rw[List.filter_cons_of_neg (by simp [hq])]
      cases hp : p c with
      | true=>rw[List.filter_cons_of_pos hp];simp only[List.length_cons];omega
      | false=>rw[List.filter_cons_of_neg (by simp [hp])];exact ih
theorem filt_lt {p q : Txt → Bool} (h : ∀ x,q x = true → p x = true) {a : Txt} (hp : p a = true) (hq : q a = false) : ∀ N : List Txt,a ∈ N → (N.filter q).length < (N.filter p).length
  | [],ha=>by cases ha
  | c :: N,ha=>by
    have hle:=filt_le h N
    rcases List.mem_cons.1 ha with e | ha'
    · subst e
      rw[List.filter_cons_of_neg (by simp [hq]),List.filter_cons_of_pos hp];simp only[List.length_cons];omega
    · have ih:=filt_lt h hp hq N ha'
      cases hqc : q c with
      | true=>rw[List.filter_cons_of_pos hqc,List.filter_cons_of_pos (h c hqc)];simp only[List.length_cons];omega
      | false =>
        rw[List.filter_cons_of_neg (by simp [hqc])]
        cases hpc : p c with
        | true=>rw[List.filter_cons_of_pos hpc];simp only[List.length_cons];omega
        | false=>rw[List.filter_cons_of_neg (by simp [hpc])];exact ih
theorem vals_put_new {l : Spots} {c : Txt} {m : Int} : look l c = none → vals (putL l c m) = vals l + m:=by
  induction l with
  | nil=>intro _;simp [putL,vals]
  | cons p l ih =>
    intro h
    rw[look] at h
    split at h
    · cases h
    · rename_i e
      have:=ih h
      simp only[putL,if_neg e,vals,List.map_cons,List.sum_cons] at this ⊢
      omega
theorem vals_put_old {l : Spots} {c : Txt} {m v : Int} : look l c = some v → vals (putL l c m) = vals l + m - v:=by
  induction l with
  | nil=>intro h;cases h
  | cons p l ih =>
    intro h
    rw[look] at h
    split at h
    · rename_i e
      cases h
      simp only[putL,if_pos e,vals,List.map_cons,List.sum_cons]
      omega
    · rename_i e
      have:=ih h
      simp only[putL,if_neg e,vals,List.map_cons,List.sum_cons] at this ⊢
      omega
theorem len_put_new {l : Spots} {c : Txt} {m : Int} : look l c = none → (putL l c m).length = l.length + 1:=by
  induction l with
  | nil=>intro _;simp [putL]
  | cons p l ih =>
    intro h
    rw[look] at h
    split at h
    · cases h
    · rename_i e
      simp only[putL,if_neg e,List.length_cons,ih h]
theorem len_put_old {l : Spots} {c : Txt} {m v : Int} : look l c = some v → (putL l c m).length = l.length:=by
  induction l with
  | nil=>intro h;cases h
  | cons p l ih =>
    intro h
    rw[look] at h
    split at h
    · rename_i e
      simp only[putL,if_pos e,List.length_cons]
    · rename_i e
      simp only[putL,if_neg e,List.length_cons,ih h]
theorem vals_pos {l : Spots} (h : ∀ p ∈ l,0 ≤ p.2) : 0 ≤ vals l:=by
  induction l with
  | nil=>simp [vals]
  | cons p l ih =>
    have h1:=h p (List.mem_cons_self ..)
    have h2:=ih fun q hq=>h q (List.mem_cons_of_mem _ hq)
    simp only[vals,List.map_cons,List.sum_cons] at h2 ⊢
    omega
def Less (N : List Txt) (l : Spots) (r : Spots × Bool) : Prop:=InvL N r.1 ∧ ((r.2 = false ∧ r.1 = l) ∨ (r.2 = true ∧ rank N r.1 < rank N l))
theorem reach_less {N : List Txt} {l : Spots} {c : Txt} {m0 n : Int} (hi : InvL N l) (hc : c ∈ N) (h0 : ∃ x,look l x = some m0) (hn : 1 ≤ n) (hn2 : n ≤ 20000) : Less N l (reachF l c (m0 + n)):=by
  obtain ⟨x,hx⟩:=h0
  have hm:=hi.1 _ (look_mem hx)
  simp only at hm
  have hv:=vals_pos fun p hp=>(hi.1 p hp).1
  have hln:=hi.2
  unfold reachF
  cases hy : look l c with
  | some v =>
    simp only
    have hv2:=hi.1 _ (look_mem hy)
    simp only at hv2
    split
    · exact ⟨hi,.inl ⟨rfl,rfl⟩⟩
    · rename_i hlt
      have hu : un N (putL l c (m0 + n)) = un N l:=by
        unfold un
        congr 1
        refine List.filter_congr fun b _=>?_
        rw[look_put]
        by_cases e : c = b
        · rw[if_pos e,← e,hy];rfl
        · rw[if_neg e]
      have hs:=vals_put_old (m:=m0 + n) hy
      have hI : InvL N (putL l c (m0 + n)):=⟨fun p hp=>by
        rw[hu]
        rcases put_mem hp with rfl | hp
        · simp only;omega
        · exact hi.1 p hp,by rw[hu,len_put_old hy];exact hln⟩
      have hv3:=vals_pos fun p hp=>(hI.1 p hp).1
      refine ⟨hI,.inr ⟨rfl,?_⟩⟩
      simp only[rank,hu]
      omega
  | none =>
    simp only
    have hu : un N (putL l c (m0 + n)) < un N l:=by
      unfold un
      refine filt_lt (fun b hb=>?_) (a:=c) (by rw[hy];rfl) (by rw[look_put,if_pos rfl];rfl) N hc
      rw[look_put] at hb
      by_cases e : c = b
      · rw[if_pos e] at hb;cases hb
      · rwa [if_neg e] at hb
    have hs:=vals_put_new (m:=m0 + n) hy
    have hI : InvL N (putL l c (m0 + n)):=⟨fun p hp=>by
      rcases put_mem hp with rfl | hp
      · simp only;omega
      · have:=hi.1 p hp
        omega,by rw[len_put_new hy];omega⟩
    have hv3:=vals_pos fun p hp=>(hI.1 p hp).1
    refine ⟨hI,.inr ⟨rfl,?_⟩⟩
    simp only[rank]
    have h1 : (un N (putL l c (m0 + n)) + 1) * (20000 * N.length + 1) ≤ un N l * (20000 * N.length + 1):=Nat.mul_le_mul_right _ hu
    rw[Nat.add_mul,Nat.one_mul] at h1
    have h2 : m0 + n ≤ 20000 * N.length:=by omega
    omega
theorem relax_less {N : List Txt} {l : Spots} {x y : Txt} {n : Int} (hi : InvL N l) (hy : y ∈ N) (hn : 1 ≤ n) (hn2 : n ≤ 20000) : Less N l (relaxF l x y n):=by
  unfold relaxF
  cases hx : look l x with
  | none=>exact ⟨hi,.inl ⟨rfl,rfl⟩⟩
  | some m=>exact reach_less hi hy ⟨x,hx⟩ hn hn2
def Sofar (N : List Txt) (l : Spots) (s : Spots × Bool) : Prop:=InvL N s.1 ∧ ((s.2 = false ∧ s.1 = l) ∨ (s.2 = true ∧ rank N s.1 < rank N l))
theorem step_sofar {N : List Txt} {l : Spots} {s : Spots × Bool} {d : Dst} (h : Sofar N l s) (hf : d.fr ∈ N) (ht : d.to ∈ N) : Sofar N l (stepF s d):=by
  unfold stepF
  split
  · rename_i hu
    simp only[usableF,Bool.and_eq_true,decide_eq_true_eq] at hu
    obtain ⟨i1,h1⟩:=h
    obtain ⟨i2,h2⟩:=relax_less (x:=d.fr) i1 ht hu.1 hu.2
    obtain ⟨i3,h3⟩:=relax_less (x:=d.to) i2 hf hu.1 hu.2
    refine ⟨i3,?_⟩
    simp only
    rcases h1 with ⟨a4001,b1⟩ | ⟨a4001,b1⟩<;>rcases h2 with ⟨a4002,b2⟩ | ⟨a4002,b2⟩<;>rcases h3 with ⟨a4003,b3⟩ | ⟨a4003,b3⟩
    · exact .inl ⟨by rw[a4001,a4002,a4003];rfl,by rw[b3,b2,b1]⟩
    all_goals refine .inr ⟨by simp [a4001,a4002,a4003],?_⟩
    all_goals (try rw[b3])<;>(try rw[b2] at *)<;>(try rw[b1] at *)<;>omega
  · exact h
theorem round_sofar {N : List Txt} {l : Spots} (hi : InvL N l) : ∀ (ds : List Dst),(∀ d ∈ ds,d.fr ∈ N ∧ d.to ∈ N) → ∀ s,Sofar N l s → Sofar N l (ds.foldl stepF s)
  | [],_,s,h=>h
  | d :: ds,hd,s,h=>round_sofar hi ds (fun x hx=>hd x (List.mem_cons_of_mem _ hx)) _ (step_sofar h (hd d (List.mem_cons_self ..)).1 (hd d (List.mem_cons_self ..)).2)
inductive Clo (ds : List Dst) : Spots → Spots → Prop
  | stop {l : Spots} (h : (roundF ds l).2 = false) : Clo ds l (roundF ds l).1
  | more {l r : Spots} (h : (roundF ds l).2 = true) (k : Clo ds (roundF ds l).1 r) : Clo ds l r
def closeF (ds : List Dst) : Nat → Spots → Spots
  | 0,l=>l
  | n + 1,l=>if (roundF ds l).2 then closeF ds n (roundF ds l).1 else (roundF ds l).1
theorem closeF_clo {N : List Txt} {ds : List Dst} (hd : ∀ d ∈ ds,d.fr ∈ N ∧ d.to ∈ N) : ∀ (n : Nat) (l : Spots),InvL N l → rank N l < n → Clo ds l (closeF ds n l)
  | 0,l,_,h=>by omega
  | n + 1,l,hi,h=>by
    have hs:=round_sofar hi ds hd (l,false) ⟨hi,.inl ⟨rfl,rfl⟩⟩
    rw[closeF]
    cases hb : (roundF ds l).2 with
    | false=>exact .stop hb
    | true =>
      rcases hs.2 with ⟨h1,_⟩ | ⟨_,h2⟩
      · rw[show (ds.foldl stepF (l,false)).2 = true from hb] at h1
        cases h1
      · exact .more hb (closeF_clo hd n _ hs.1 (by have : rank N (roundF ds l).1 < rank N l := h2
                                                   omega))
end Go.Proofs.YtanmnoipikdplaaGreat.Ml
/- Percentages of amounts. -/
namespace Go.Proofs.YtanmnoipikdplaaGreat.Ml
open Go Go.AL
set_option linter.unusedSectionVars false
variable [Go.AL.Mode]
set_option linter.unusedSimpArgs false
set_option linter.unusedVariables false
theorem and_lo {a : Int} (h0 : 0 ≤ a) (h1 : a < 18446744073709551616) : IntKind.u64.wrap (((BitVec.ofInt IntKind.u64.bits a &&& BitVec.ofInt IntKind.u64.bits 4294967295).toNat : Nat) : Int) = a % 4294967296:=by
  obtain ⟨n,rfl⟩:=Int.eq_ofNat_of_zero_le h0
  have hn : n < 2 ^ 64:=by omega
  have e1 : (BitVec.ofInt IntKind.u64.bits ((n : Nat) : Int)).toNat = n:=by
    simp only[IntKind.bits,BitVec.toNat_ofInt]
    omega
  have e2 : (BitVec.ofInt IntKind.u64.bits 4294967295).toNat = 2 ^ 32 - 1:=by decide
  rw[BitVec.toNat_and,e1,e2,Nat.and_two_pow_sub_one_eq_mod,wrap_u64 (by omega) (by omega)]
  omega
theorem sh_r32 {a : Int} : shiftV false .u64 a 32 = some (.int .u64 (a / 4294967296)):=by
  simp only[shiftV,IntKind.bits]
  rw[Int.fdiv_eq_ediv_of_nonneg _ (by decide)]
  rfl
theorem mul64_A (a b : Nat) (S : Store) (ha : a ≤ 1099511627776) (hb : b ≤ 100000) : CallA Tryz.prog 125 [.int .u64 a,.int .u64 b] S fun r S'=>r = .tup [.int .u64 0,.int .u64 ((a * b : Nat) : Int)] ∧ S' = S:=by
  refine CallA.keep Tryz.func125 c4034 (Nat.le_of_ble_eq_true rfl) fun σ hσ=>?_
  have hb0 : (b : Int) % 4294967296 = b:=by omega
  have hb1 : (b : Int) / 4294967296 = 0:=by omega
  have q0 : (a % 4294967296) * b ≤ 4294967296 * 100000:=Nat.mul_le_mul (by omega) hb
  have q1 : (a / 4294967296) * b ≤ 256 * 100000:=Nat.mul_le_mul (by omega) hb
  have q2 : a * b ≤ 1099511627776 * 100000:=Nat.mul_le_mul ha hb
  have p0 : (a : Int) % 4294967296 * b = (((a % 4294967296) * b : Nat) : Int):=by simp
  have p1 : (a : Int) / 4294967296 * b = (((a / 4294967296) * b : Nat) : Int):=by simp
  have p2 : (a : Int) * b = ((a * b : Nat) : Int):=by simp
  generalize (a % 4294967296) * b = u at q0 p0
  generalize (a / 4294967296) * b = v at q1 p1
  generalize a * b = w at q2 p2
  simp (disch:=omega) only[a4034,and_lo,sh_r32,wrap_u64,hb0,hb1,p0,p1,p2,Int.mul_zero,Int.add_zero,Int.zero_add,↓eA,eB,evU,seval]
  have e : ((v : Int) + (u : Int) / 4294967296) / 4294967296 + ((v : Int) + (u : Int) / 4294967296) % 4294967296 / 4294967296 = 0:=by omega
  rw[e]
theorem div64_A (n m : Nat) (S : Store) (hn : n < 18446744073709551616) (hm0 : 0 < m) (hm : m < 18446744073709551616) : CallA Tryz.prog 126 [.int .u64 0,.int .u64 n,.int .u64 m] S fun r S'=>r = .tup [.int .u64 ((n / m : Nat) : Int),.int .u64 ((n % m : Nat) : Int)] ∧ S' = S:=by
  refine CallA.keep Tryz.func126 c4035 (Nat.le_of_ble_eq_true rfl) fun σ hσ=>?_
  have h1 : ¬ (m : Int) = 0:=by omega
  have h2 : ¬ (m : Int) ≤ 0:=by omega
  have e1 : (n : Int).tdiv m = ((n / m : Nat) : Int):=by rw[Int.tdiv_eq_ediv_of_nonneg (by omega)];simp
  have e2 : (n : Int).tmod m = ((n % m : Nat) : Int):=by rw[Int.tmod_eq_emod_of_nonneg (by omega)];simp
  have e3 : n / m ≤ n:=Nat.div_le_self n m
  generalize n / m = q at e1 e3
  generalize n % m = r at e2
  simp (disch:=omega) only[a4035,h1,h2,e1,e2,wrap_u64,eq_self,decide_false,↓eA,eB,evU,seval]
theorem fits_A (a : Int) (S : Store) : CallA Tryz.prog 93 [.int .i64 a] S fun r S'=>r = .bool (decide (-1099511627776 ≤ a ∧ a ≤ 1099511627776)) ∧ S' = S:=by
  refine CallA.keep Tryz.func93 c4021 (Nat.le_of_ble_eq_true rfl) fun σ hσ=>?_
  by_cases h1 : -1099511627776 ≤ a
  · have e : decide (-1099511627776 ≤ a ∧ a ≤ 1099511627776) = decide (a ≤ 1099511627776):=by simp [h1]
    simp only[a4021,h1,e,↓eA,eB,evU,seval]
  · have e : decide (-1099511627776 ≤ a ∧ a ≤ 1099511627776) = false:=by simp [h1]
    rw[e]
    simp only[a4021,h1,decide_false,↓eA,eB,evU,seval]
theorem amount_A (a : Int) (S : Store) : CallA Tryz.prog 97 [.int .i64 a] S fun r S'=>r = .bool (decide (-1099511627776 ≤ a ∧ a ≤ 1099511627776)) ∧ S' = S:=by
  refine CallA.keep Tryz.func97 c4024 (Nat.le_of_ble_eq_true rfl) fun σ hσ=>?_
  by_cases h1 : -1099511627776 ≤ a
  · have e : decide (-1099511627776 ≤ a ∧ a ≤ 1099511627776) = decide (a ≤ 1099511627776):=by simp [h1]
    simp only[a4024,h1,e,↓eA,eB,evU,seval]
  · have e : decide (-1099511627776 ≤ a ∧ a ≤ 1099511627776) = false:=by simp [h1]
    rw[e]
    simp only[a4024,h1,decide_false,↓eA,eB,evU,seval]
theorem wrap_u64_neg {a : Int} (h0 : a < 0) (h1 : -18446744073709551616 ≤ a) : IntKind.u64.wrap a = a + 18446744073709551616:=by
  simp [IntKind.wrap,IntKind.bits,IntKind.signed]
  omega
theorem msize_A (a : Int) (S : Store) (h0 : -1099511627776 ≤ a) (h1 : a ≤ 1099511627776) : CallA Tryz.prog 95 [.int .i64 a] S fun r S'=>r = .int .u64 (a.natAbs : Int) ∧ S' = S:=by
  refine CallA.keep Tryz.func95 c4023 (Nat.le_of_ble_eq_true rfl) fun σ hσ=>?_
  by_cases h : a < 0
  · have e : 0 - (a + 18446744073709551616) = -18446744073709551616 - a:=by omega
    have e2 : IntKind.u64.wrap (-18446744073709551616 - a) = (a.natAbs : Int):=by rw[wrap_u64_neg (by omega) (by omega)];omega
    simp (disch:=omega) only[a4023,h,wrap_u64_neg,e,e2,↓eA,eB,evU,seval]
  · have e : a = (a.natAbs : Int):=by omega
    generalize a.natAbs = n at e
    subst e
    simp (disch:=omega) only[a4023,h,wrap_u64,decide_false,↓eA,eB,evU,seval]
theorem rsize_A (a : Int) (S : Store) (h0 : -1099511627776 ≤ a) (h1 : a ≤ 1099511627776) : CallA Tryz.prog 99 [.int .i64 a] S fun r S'=>r = .int .i64 (a.natAbs : Int) ∧ S' = S:=by
  refine CallA.keep Tryz.func99 c4026 (Nat.le_of_ble_eq_true rfl) fun σ hσ=>?_
  by_cases h : a < 0
  · have e : 0 - a = (a.natAbs : Int):=by omega
    simp (disch:=omega) only[a4026,h,e,wrap_i64,↓eA,eB,evU,seval]
  · have e : a = (a.natAbs : Int):=by omega
    generalize a.natAbs = n at e
    subst e
    simp (disch:=omega) only[a4026,h,wrap_i64,decide_false,↓eA,eB,evU,seval]
theorem scale_A (a b : Nat) (S : Store) (ha : a ≤ 1099511627776) (hb : b ≤ 100000) : CallA Tryz.prog 94 [.int .u64 a,.int .u64 b,.int .u64 10000] S fun r S'=>r = .tup [.int .u64 ((a * b / 10000 : Nat) : Int),.int .u64 ((a * b % 10000 : Nat) : Int),.bool true] ∧ S' = S:=by
  refine CallA.keep Tryz.func94 c4022 (Nat.le_of_ble_eq_true rfl) fun σ hσ=>?_
  have q2 : a * b ≤ 1099511627776 * 100000:=Nat.mul_le_mul ha hb
  have h0 : ¬ (10000 : Int) ≤ 0:=by omega
  simp only[a4022,↓eA,eB,evU,seval]
  refine (mul64_A a b S ha hb).then ?_
  simp only[h0,decide_false,↓eA,eB,evU,seval]
  refine (div64_A (a * b) 10000 S (by omega) (by omega) (by omega)).then ?_
  simp only[↓eA,eB,evU,seval]
def percentF (a h : Int) : Int × Int :=
  if a < -1099511627776 ∨ 1099511627776 < a then (0,11)
  else if (2 * (a * h) + 10000) / 20000 < -1099511627776 ∨ 1099511627776 < (2 * (a * h) + 10000) / 20000 then (0,11)
  else ((2 * (a * h) + 10000) / 20000,0)
theorem percent_A (a : Int) (h : Nat) (S : Store) (hh : h ≤ 100000) : CallA Tryz.prog 69 [.int .i64 a,.int .i64 h] S fun r S'=>r = .tup [.int .i64 (percentF a h).1,.int .i64 (percentF a h).2] ∧ S' = S:=by
  refine CallA.keep Tryz.func69 c4015 (Nat.le_of_ble_eq_true rfl) fun σ hσ=>?_
  have hf : decide (-1099511627776 ≤ (h : Int) ∧ (h : Int) ≤ 1099511627776) = true:=by simp;omega
  simp only[a4015,↓eA,eB,evU,seval]
  refine (fits_A a S).then ?_
  by_cases hr : -1099511627776 ≤ a ∧ a ≤ 1099511627776
  · obtain ⟨r1,r2⟩:=hr
    simp only[r1,r2,and_self,↓eA,eB,evU,seval]
    refine (fits_A h S).then ?_
    simp only[hf,↓eA,eB,evU,seval]
    refine (msize_A a S r1 r2).then ?_
    simp only[↓eA,eB,evU,seval]
    refine (msize_A h S (by omega) (by omega)).then ?_
    simp only[Int.natAbs_natCast,↓eA,eB,evU,seval]
    refine (scale_A a.natAbs h S (by omega) hh).then ?_
    have hng : ¬ (h : Int) < 0:=by omega
    have hw : a.natAbs * h ≤ 1099511627776 * 100000:=Nat.mul_le_mul (by omega) hh
    have hah : (a < 0 → a * (h : Int) = -((a.natAbs * h : Nat) : Int)) ∧ (¬ a < 0 → a * (h : Int) = ((a.natAbs * h : Nat) : Int)):=by
      refine ⟨fun hn=>?_,fun hn=>?_⟩
      · have e : a = -(a.natAbs : Int):=by omega
        rw[Int.natCast_mul,← Int.neg_mul,← e]
      · have e : a = (a.natAbs : Int):=by omega
        rw[Int.natCast_mul,← e]
    have pcOver : ((2 * (a * (h : Int)) + 10000) / 20000 < -1099511627776 ∨ 1099511627776 < (2 * (a * (h : Int)) + 10000) / 20000) → percentF a h = (0,11):=fun hc=>by
      unfold percentF
      rw[if_neg (by omega),if_pos hc]
    have pcOk : ∀ n : Int,n = (2 * (a * (h : Int)) + 10000) / 20000 → -1099511627776 ≤ n → n ≤ 1099511627776 → percentF a h = (n,0):=fun n hn h1 h2=>by
      unfold percentF
      rw[if_neg (by omega),if_neg (by omega),hn]
    generalize a.natAbs * h = w at hw hah
    generalize a * (h : Int) = x at hah pcOver pcOk
    have pcOver' : ((2 * x + 10000) / 20000 < -1099511627776 ∨ 1099511627776 < (2 * x + 10000) / 20000) → V.tup [V.int IntKind.i64 0,V.int IntKind.i64 11] = V.tup [V.int IntKind.i64 (percentF a h).1,V.int IntKind.i64 (percentF a h).2]:=fun hc=>by rw[pcOver hc]
    have pcOk' : ∀ n : Int,n = (2 * x + 10000) / 20000 → -1099511627776 ≤ n → n ≤ 1099511627776 → V.tup [V.int IntKind.i64 n,V.int IntKind.i64 0] = V.tup [V.int IntKind.i64 (percentF a h).1,V.int IntKind.i64 (percentF a h).2]:=fun n h1 h2 h3=>by rw[pcOk n h1 h2 h3]
    have hwr : IntKind.u64.wrap (((w / 10000 : Nat) : Int) + 1) = ((w / 10000 : Nat) : Int) + 1:=wrap_u64 (by omega) (by omega)
    clear pcOver pcOk
    generalize percentF a h = pf at pcOver' pcOk'
    by_cases ha : a < 0
    · have hx:=hah.1 ha
      simp only[hng,ha,decide_false,hwr,show (true == false) = false from rfl,↓eA,eB,evU,seval]
      repeat' first
        | intro _
        | refine And.intro ?_ ?_
      all_goals first
        | (exfalso;rename_i hc;exact Bool.noConfusion hc)
        | (refine pcOver' ?_;omega)
        | (simp (disch:=omega) only[wrap_u64,wrap_i64];refine pcOk' _ ?_ ?_ ?_<;>omega)
        | omega
    · have hx:=hah.2 ha
      simp only[hng,ha,decide_false,hwr,show (false == false) = true from rfl,↓eA,eB,evU,seval]
      repeat' first
        | intro _
        | refine And.intro ?_ ?_
      all_goals first
        | (exfalso;rename_i hc;exact Bool.noConfusion hc)
        | (refine pcOver' ?_;omega)
        | (simp (disch:=omega) only[wrap_u64,wrap_i64];refine pcOk' _ ?_ ?_ ?_<;>omega)
        | omega
  · have e : percentF a h = (0,11):=if_pos (by omega)
    have hd : decide (-1099511627776 ≤ a ∧ a ≤ 1099511627776) = false:=by simpa using hr
    simp only[hd,e,↓eA,eB,evU,seval]
end Go.Proofs.YtanmnoipikdplaaGreat.Ml
/- The reference's percentages;surcharges and levels. -/
namespace Go.Proofs.YtanmnoipikdplaaGreat.Ml
open Go Go.AL
set_option linter.unusedSectionVars false
variable [Go.AL.Mode]
set_option linter.unusedSimpArgs false
set_option linter.unusedVariables false
theorem tdm {a b : Int} (hb : 0 < b) : (0 ≤ a → a.tdiv b = a / b ∧ a.tmod b = a % b) ∧ (a < 0 → a.tdiv b = -((-a) / b) ∧ a.tmod b = -((-a) % b)):=by
  refine ⟨fun h=>⟨Int.tdiv_eq_ediv_of_nonneg h,Int.tmod_eq_emod_of_nonneg h⟩,fun h=>?_⟩
  have e : a = -(-a):=by omega
  have h1 : a.tdiv b = -((-a).tdiv b):=by conv=>lhs;rw[e,Int.neg_tdiv]
  have h2 : a.tmod b = -((-a).tmod b):=by conv=>lhs;rw[e,Int.neg_tmod]
  rw[h1,h2,Int.tdiv_eq_ediv_of_nonneg (by omega),Int.tmod_eq_emod_of_nonneg (by omega)]
  exact ⟨rfl,rfl⟩
theorem floor10000_A (a : Int) (S : Store) (h0 : -1152921504606846976 ≤ a) (h1 : a ≤ 1152921504606846976) : CallA Tryz.prog 98 [.int .i64 a,.int .i64 10000] S fun r S'=>r = .tup [.int .i64 (a / 10000),.int .i64 (a % 10000)] ∧ S' = S:=by
  refine CallA.keep Tryz.func98 c4025 (Nat.le_of_ble_eq_true rfl) fun σ hσ=>?_
  have ht:=tdm (a:=a) (b:=10000) (by omega)
  have hb0 : (10000 : Int) ≠ 0:=by omega
  by_cases ha : 0 ≤ a
  · obtain ⟨e1,e2⟩:=ht.1 ha
    have h2 : ¬ a % 10000 < 0:=by omega
    simp (disch:=omega) only[a4025,bi_quo hb0,bi_rem hb0,e1,e2,h2,wrap_i64,decide_false,↓eA,eB,evU,seval]
  · obtain ⟨e1,e2⟩:=ht.2 (by omega)
    by_cases hr : (-a) % 10000 = 0
    · have e3 : a.tdiv 10000 = a / 10000:=by rw[e1];omega
      have e4 : a.tmod 10000 = a % 10000:=by rw[e2];omega
      have h2 : ¬ a % 10000 < 0:=by omega
      simp (disch:=omega) only[a4025,bi_quo hb0,bi_rem hb0,e3,e4,h2,wrap_i64,decide_false,↓eA,eB,evU,seval]
    · have e3 : a.tdiv 10000 = a / 10000 + 1:=by rw[e1];omega
      have e4 : a.tmod 10000 = a % 10000 - 10000:=by rw[e2];omega
      have h2 : a % 10000 - 10000 < 0:=by omega
      have e5 : a / 10000 + 1 - 1 = a / 10000:=by omega
      have e6 : a % 10000 - 10000 + 10000 = a % 10000:=by omega
      simp (disch:=omega) only[a4025,bi_quo hb0,bi_rem hb0,e3,e4,e5,e6,h2,wrap_i64,↓eA,eB,evU,seval]
theorem floor20000_A (a : Int) (S : Store) (h0 : -1152921504606846976 ≤ a) (h1 : a ≤ 1152921504606846976) : CallA Tryz.prog 98 [.int .i64 a,.int .i64 20000] S fun r S'=>r = .tup [.int .i64 (a / 20000),.int .i64 (a % 20000)] ∧ S' = S:=by
  refine CallA.keep Tryz.func98 c4025 (Nat.le_of_ble_eq_true rfl) fun σ hσ=>?_
  have ht:=tdm (a:=a) (b:=20000) (by omega)
  have hb0 : (20000 : Int) ≠ 0:=by omega
  by_cases ha : 0 ≤ a
  · obtain ⟨e1,e2⟩:=ht.1 ha
    have h2 : ¬ a % 20000 < 0:=by omega
    simp (disch:=omega) only[a4025,bi_quo hb0,bi_rem hb0,e1,e2,h2,wrap_i64,decide_false,↓eA,eB,evU,seval]
  · obtain ⟨e1,e2⟩:=ht.2 (by omega)
    by_cases hr : (-a) % 20000 = 0
    · have e3 : a.tdiv 20000 = a / 20000:=by rw[e1];omega
      have e4 : a.tmod 20000 = a % 20000:=by rw[e2];omega
      have h2 : ¬ a % 20000 < 0:=by omega
      simp (disch:=omega) only[a4025,bi_quo hb0,bi_rem hb0,e3,e4,h2,wrap_i64,decide_false,↓eA,eB,evU,seval]
    · have e3 : a.tdiv 20000 = a / 20000 + 1:=by rw[e1];omega
      have e4 : a.tmod 20000 = a % 20000 - 20000:=by rw[e2];omega
      have h2 : a % 20000 - 20000 < 0:=by omega
      have e5 : a / 20000 + 1 - 1 = a / 20000:=by omega
      have e6 : a % 20000 - 20000 + 20000 = a % 20000:=by omega
      simp (disch:=omega) only[a4025,bi_quo hb0,bi_rem hb0,e3,e4,e5,e6,h2,wrap_i64,↓eA,eB,evU,seval]
theorem refpercent_A (a : Int) (h : Nat) (S : Store) (hh : h ≤ 100000) : CallA Tryz.prog 72 [.int .i64 a,.int .i64 h] S fun r S'=>r = .tup [.int .i64 (percentF a h).1,.int .i64 (percentF a h).2] ∧ S' = S:=by
  refine CallA.keep Tryz.func72 c4016 (Nat.le_of_ble_eq_true rfl) fun σ hσ=>?_
  have hf : decide (-1099511627776 ≤ (h : Int) ∧ (h : Int) ≤ 1099511627776) = true:=by simp;omega
  simp only[a4016,↓eA,eB,evU,seval]
  refine (amount_A a S).then ?_
  by_cases hr : -1099511627776 ≤ a ∧ a ≤ 1099511627776
  · obtain ⟨r1,r2⟩:=hr
    simp only[r1,r2,and_self,↓eA,eB,evU,seval]
    refine (amount_A h S).then ?_
    simp only[hf,↓eA,eB,evU,seval]
    refine (floor10000_A h S (by omega) (by omega)).then ?_
    obtain ⟨w,q,hw,hq,hhe⟩ : ∃ w q : Nat,w ≤ 10 ∧ q < 10000 ∧ h = 10000 * w + q:=⟨h / 10000,h % 10000,by omega,by omega,by omega⟩
    have hd1 : (h : Int) / 10000 = (w : Nat):=by omega
    have hd2 : (h : Int) % 10000 = (q : Nat):=by omega
    have hx : a * (h : Int) = 10000 * (a * (w : Nat)) + a * (q : Nat):=by
      have e : (h : Int) = 10000 * (w : Nat) + (q : Nat):=by omega
      rw[e,Int.mul_add,Int.mul_left_comm]
    have hm2 : 2 * a * (q : Nat) = 2 * (a * (q : Nat)):=by rw[Int.mul_assoc]
    have hy2 : (a * ((q : Nat) : Int)).natAbs = a.natAbs * q:=by rw[Int.natAbs_mul,Int.natAbs_natCast]
    have hy : a.natAbs * q ≤ 1099511627776 * 10000:=Nat.mul_le_mul (by omega) (by omega)
    have hv2 : (a * ((w : Nat) : Int)).natAbs = a.natAbs * w:=by rw[Int.natAbs_mul,Int.natAbs_natCast]
    have hv : a.natAbs * w ≤ 1099511627776 * 10:=Nat.mul_le_mul (by omega) (by omega)
    have sy1 : 0 ≤ a → 0 ≤ a * ((q : Nat) : Int):=fun h=>Int.mul_nonneg h (by omega)
    have sy2 : a ≤ 0 → a * ((q : Nat) : Int) ≤ 0:=fun h=>Int.mul_nonpos_of_nonpos_of_nonneg h (by omega)
    have sv1 : 0 ≤ a → 0 ≤ a * ((w : Nat) : Int):=fun h=>Int.mul_nonneg h (by omega)
    have sv2 : a ≤ 0 → a * ((w : Nat) : Int) ≤ 0:=fun h=>Int.mul_nonpos_of_nonpos_of_nonneg h (by omega)
    rw[← hy2] at hy
    rw[← hv2] at hv
    have pc : percentF a h = if a * ((w : Nat) : Int) + (2 * (a * ((q : Nat) : Int)) + 10000) / 20000 < -1099511627776 ∨ 1099511627776 < a * ((w : Nat) : Int) + (2 * (a * ((q : Nat) : Int)) + 10000) / 20000 then (0,11) else (a * ((w : Nat) : Int) + (2 * (a * ((q : Nat) : Int)) + 10000) / 20000,0):=by
      have e : (2 * (a * (h : Int)) + 10000) / 20000 = a * ((w : Nat) : Int) + (2 * (a * ((q : Nat) : Int)) + 10000) / 20000:=by omega
      unfold percentF
      rw[if_neg (by omega),e]
    rw[hd1,hd2,pc]
    generalize a * ((q : Nat) : Int) = y at hm2 hy sy1 sy2
    generalize hve : a * ((w : Nat) : Int) = v at hv hv2 sv1 sv2
    clear hx hy2 pc
    have fin : CallA Tryz.prog 98 [.int .i64 (2 * y + 10000),.int .i64 20000] S fun r S'=>r = .tup [.int .i64 ((2 * y + 10000) / 20000),.int .i64 ((2 * y + 10000) % 20000)] ∧ S' = S:=floor20000_A _ S (by omega) (by omega)
    by_cases ha : a = 0
    · obtain rfl : y = 0:=by have:=sy1 (by omega);have:=sy2 (by omega);omega
      obtain rfl : v = 0:=by have:=sv1 (by omega);have:=sv2 (by omega);omega
      subst ha
      have fin0:=floor20000_A 10000 S (by omega) (by omega)
      have hd0 : decide (-1099511627776 ≤ (0 : Int) ∧ (0 : Int) ≤ 1099511627776) = true:=by decide
      have hz : (10000 : Int) / 20000 = 0:=by decide
      have hpc : (if (0 : Int) + (2 * 0 + 10000) / 20000 < -1099511627776 ∨ 1099511627776 < (0 : Int) + (2 * 0 + 10000) / 20000 then ((0 : Int),(11 : Int)) else (0 + (2 * 0 + 10000) / 20000,0)) = (0,0):=by decide
      rw[hpc]
      simp (disch:=omega) only[hm2,wrap_i64,decide_false,Int.mul_zero,Int.zero_mul,Int.zero_add,↓eA,eB,evU,seval]
      refine fin0.then ?_
      simp (disch:=omega) only[hz,wrap_i64,Int.mul_one,Int.mul_zero,Int.zero_mul,Int.zero_add,↓eA,eB,evU,seval]
      refine (amount_A 0 S).then ?_
      simp (disch:=omega) only[hd0,wrap_i64,Int.mul_one,Int.mul_zero,Int.zero_mul,Int.zero_add,↓eA,eB,evU,seval]
    · simp (disch:=omega) only[ha,hm2,wrap_i64,decide_false,↓eA,eB,evU,seval]
      refine (rsize_A (w : Nat) S (by omega) (by omega)).then ?_
      simp (disch:=omega) only[↓eA,eB,evU,seval]
      refine (rsize_A a S (by omega) (by omega)).then ?_
      have hn0 : ((a.natAbs : Nat) : Int) ≠ 0:=by omega
      have hq2 : (2199023255552 : Int).tdiv ((a.natAbs : Nat) : Int) ≤ 2199023255552:=by
        rw[Int.tdiv_eq_ediv_of_nonneg (by omega)]
        exact Int.ediv_le_self _ (by omega)
      have h1a : ((Int.natAbs ((w : Nat) : Int) : Nat) : Int) = (w : Nat):=by rw[Int.natAbs_natCast]
      have hq0 : 0 ≤ (2199023255552 : Int).tdiv ((a.natAbs : Nat) : Int):=Int.tdiv_nonneg (by omega) (by omega)
      have hbig : (2199023255552 : Int).tdiv ((a.natAbs : Nat) : Int) < (w : Nat) → 2199023255552 < v.natAbs:=fun h=>by
        rw[Int.tdiv_eq_ediv_of_nonneg (by omega),Int.ediv_lt_iff_lt_mul (by omega)] at h
        rw[hv2,Nat.mul_comm]
        rw[← Int.natCast_mul] at h
        generalize w * a.natAbs = zz at h ⊢
        omega
      generalize hz : (2199023255552 : Int).tdiv ((a.natAbs : Nat) : Int) = z at hq2 hq0 hbig
      by_cases hzw : z < (w : Nat)
      · have hb:=hbig hzw
        have hc : v + (2 * y + 10000) / 20000 < -1099511627776 ∨ 1099511627776 < v + (2 * y + 10000) / 20000:=by
          rcases Int.lt_or_le a 0 with h | h
          · have:=sv2 (by omega)
            have:=sy2 (by omega)
            omega
          · have:=sv1 h
            have:=sy1 h
            omega
        rw[if_pos hc]
        have hd : decide (z < ((w : Nat) : Int)) = true:=decide_eq_true hzw
        simp (disch:=omega) only[bi_quo hn0,hz,h1a,hd,wrap_i64,↓eA,eB,evU,seval]
      · have hd : decide (z < ((w : Nat) : Int)) = false:=decide_eq_false hzw
        simp (disch:=omega) only[bi_quo hn0,hz,h1a,hd,hm2,wrap_i64,↓eA,eB,evU,seval]
        refine fin.then ?_
        simp (disch:=omega) only[hve,hm2,wrap_i64,↓eA,eB,evU,seval]
        refine (amount_A (v + (2 * y + 10000) / 20000) S).then ?_
        by_cases hc : v + (2 * y + 10000) / 20000 < -1099511627776 ∨ 1099511627776 < v + (2 * y + 10000) / 20000
        · have hd : decide (-1099511627776 ≤ v + (2 * y + 10000) / 20000 ∧ v + (2 * y + 10000) / 20000 ≤ 1099511627776) = false:=by simp;omega
          simp (disch:=omega) only[hd,if_pos hc,↓eA,eB,evU,seval]
        · have hd : decide (-1099511627776 ≤ v + (2 * y + 10000) / 20000 ∧ v + (2 * y + 10000) / 20000 ≤ 1099511627776) = true:=by simp;omega
          simp (disch:=omega) only[hd,if_neg hc,hve,wrap_i64,↓eA,eB,evU,seval]
  · have e : percentF a h = (0,11):=if_pos (by omega)
    have hd : decide (-1099511627776 ≤ a ∧ a ≤ 1099511627776) = false:=by simpa using hr
    simp only[hd,e,↓eA,eB,evU,seval]
end Go.Proofs.YtanmnoipikdplaaGreat.Ml
