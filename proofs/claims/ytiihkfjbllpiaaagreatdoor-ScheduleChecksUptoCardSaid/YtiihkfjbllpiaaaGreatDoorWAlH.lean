/- The same equations, so that 'simp only' never looks under what it can't yet decide: what follows is an application that lacks its last arguments. -/
import Derived.Test.YtiihkfjbllpiaaaGreatDoorWAl9
import Derived.Test.YtiihkfjbllpiaaaGreatDoorWAlG
namespace Go.AL
set_option linter.unusedSectionVars false
variable [Mode]
section
variable {P : Program} {N : Nat} {σ : Base} {Q : Exit → Env → Store → Prop} {E : Env} {S : Store} {e : Nat → V} {x y z : Opd}
def contA (P : Program) (r : List AItem) (E : Env) (d : Option Nat) (K : Env → Store → Prop) (v : V) (S : Store) : Prop:=regA P r (E.put d v) S K
def grdA (P : Program) (s : AStm) (r : List AItem) (d : Option Nat) (S : Store) (K : Env → Store → Prop) (E : Env) : Prop:=stmA P s E.get S (contA P r E d K)
def skpA (P : Program) (r : List AItem) (d : Option Nat) (S : Store) (K : Env → Store → Prop) (E : Env) : Prop:=regA P r (E.put d .skipped) S K
theorem n_cont {r : List AItem} {d : Option Nat} {K : Env → Store → Prop} {v : V} : contA P r E d K v S = regA P r (E.put d v) S K:=by simp only[contA]
theorem n_grd {s : AStm} {r : List AItem} {d : Option Nat} {K : Env → Store → Prop} : grdA P s r d S K E = stmA P s E.get S (contA P r E d K):=by simp only[grdA]
theorem n_skp {r : List AItem} {d : Option Nat} {K : Env → Store → Prop} : skpA P r d S K E = regA P r (E.put d .skipped) S K:=by simp only[skpA]
theorem n_plain {d : Option Nat} {s : AStm} {r : List AItem} {K : Env → Store → Prop} : regA P (⟨d,none,s⟩ :: r) E S K = stmA P s E.get S (contA P r E d K):=by simp only[regA,guardA];rfl
theorem n_guard {d : Option Nat} {t : Nat} {want : Bool} {s : AStm} {r : List AItem} {K : Env → Store → Prop} : regA P (⟨d,some (t,want),s⟩ :: r) E S K = guardV E t (E.get t) want (grdA P s r d S K) (skpA P r d S K):=by
  rw[r_guard];rfl
def condW (P : Program) (N : Nat) (σ : Base) (v : V) (a b : ACode) (Q : Exit → Env → Store → Prop) (E : Env) (S : Store) : Prop:=condA v (wpA P N σ a Q E S) (wpA P N σ b Q E S)
theorem n_cond {c : Opd} {a b : ACode} : wpA P N σ (.cond c a b) Q E S = condW P N σ (ev E.get c) a b Q E S:=by simp only[wpA,condW]
theorem n_condb {t : Bool} {a b : ACode} : condW P N σ (.bool t) a b Q E S = if t = true then wpA P N σ a Q E S else wpA P N σ b Q E S:=by simp only[condW,c_bool]
def contO (P : Program) (r : List (Fl × AItem)) (E : Env) (d : Option Nat) (K : Env → Store → Prop) (v : V) (S : Store) : Prop:=regO P r (E.put d v) S K
def grdO (P : Program) (f : Fl) (s : AStm) (r : List (Fl × AItem)) (d : Option Nat) (S : Store) (K : Env → Store → Prop) (E : Env) : Prop:=itemO P f s E.get S (contO P r E d K)
def skpO (P : Program) (r : List (Fl × AItem)) (d : Option Nat) (S : Store) (K : Env → Store → Prop) (E : Env) : Prop:=regO P r (E.put d .skipped) S K
theorem m_cont {r : List (Fl × AItem)} {d : Option Nat} {K : Env → Store → Prop} {v : V} : contO P r E d K v S = regO P r (E.put d v) S K:=by simp only[contO]
theorem m_grd {f : Fl} {s : AStm} {r : List (Fl × AItem)} {d : Option Nat} {K : Env → Store → Prop} : grdO P f s r d S K E = itemO P f s E.get S (contO P r E d K):=by simp only[grdO]
theorem m_skp {r : List (Fl × AItem)} {d : Option Nat} {K : Env → Store → Prop} : skpO P r d S K E = regO P r (E.put d .skipped) S K:=by simp only[skpO]
theorem m_plain {f : Fl} {d : Option Nat} {s : AStm} {r : List (Fl × AItem)} {K : Env → Store → Prop} : regO P ((f,⟨d,none,s⟩) :: r) E S K = itemO P f s E.get S (contO P r E d K):=by simp only[regO,guardA];rfl
theorem m_guard {f : Fl} {d : Option Nat} {t : Nat} {want : Bool} {s : AStm} {r : List (Fl × AItem)} {K : Env → Store → Prop} : regO P ((f,⟨d,some (t,want),s⟩) :: r) E S K = guardV E t (E.get t) want (grdO P f s r d S K) (skpO P r d S K):=by
  rw[q_guard];rfl
def kSt (K : V → Store → Prop) (S : Store) (v : V) : Prop:=K v S
def kStab (P : Program) (s : AStm) (e : Nat → V) (K : V → Store → Prop) (S : Store) (v : V) : Prop:=stableA P s e v ∧ K v S
theorem m_kSt {K : V → Store → Prop} {v : V} : kSt K S v = K v S:=by simp only[kSt]
theorem m_kStab {s : AStm} {K : V → Store → Prop} {v : V} : kStab P s e K S v = (stableA P s e v ∧ K v S):=by simp only[kStab]
theorem m_quiet {s : AStm} {K : V → Store → Prop} : itemO P .quiet s e S K = stmD P s e S (kSt K S):=by simp only[itemO];rfl
def kGrow (P : Program) (s : AStm) (e : Nat → V) (K : V → Store → Prop) (S : Store) (v : V) : Prop:=growA P s e S v ∧ K v S
theorem m_kGrow {s : AStm} {K : V → Store → Prop} {v : V} : kGrow P s e K S v = (growA P s e S v ∧ K v S):=by simp only[kGrow]
theorem m_grow {s : AStm} {K : V → Store → Prop} : itemO P .grow s e S K = stmD P s e S (kGrow P s e K S):=by simp only[itemO];rfl
theorem m_stable {s : AStm} {K : V → Store → Prop} : itemO P .stable s e S K = stmD P s e S (kStab P s e K S):=by simp only[itemO];rfl
def exD (P : Program) (f : FuncId) (l : List V) (S : Store) (K : V → Prop) : Prop:=∃ v,CallA P f l S (fun r S'=>r = v ∧ S' = S) ∧ K v
theorem exD.intro {f : FuncId} {l : List V} {v : V} {K : V → Prop} (h : CallA P f l S (fun r S'=>r = v ∧ S' = S)) (k : K v) : exD P f l S K:=⟨v,h,k⟩
theorem m_call {f : FuncId} {l : List Opd} {K : V → Prop} : stmD P (.call f l) e S K = exD P f (evs e l) S K:=by simp only[stmD];rfl
def callE (P : Program) (v : V) (l : List V) (S : Store) (K : V → Prop) : Prop:=callD P v l S K
theorem m_callv {l : List Opd} {K : V → Prop} : stmD P (.callv x l) e S K = callE P (ev e x) (evs e l) S K:=by simp only[callE];exact sd_callv
theorem m_func {f : FuncId} {a b l : List V} {K : V → Prop} : callE P (.func f a b) l S K = exD P f (a ++ l ++ b) S K:=by simp only[callE,callD];rfl
theorem CallA.then {f : FuncId} {args : List V} {v : V} {R : V → Store → Prop} (h : CallA P f args S fun r S'=>r = v ∧ S' = S) (k : R v S) : CallA P f args S R :=
  h.mono fun r S' ⟨h1,h2⟩=>by rw[h1,h2];exact k
end
end Go.AL
