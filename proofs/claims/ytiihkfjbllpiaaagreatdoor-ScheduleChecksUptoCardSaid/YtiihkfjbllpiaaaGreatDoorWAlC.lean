/- The road from a contract to a row, argument by argument; how long what was read can be. -/
import Derived.Test.YtiihkfjbllpiaaaGreatDoorWAlB
namespace Go.AL
set_option linter.unusedSectionVars false
variable [Mode]
set_option linter.unusedSimpArgs false
set_option linter.unusedVariables false
open Go.Proofs.YtiihkfjbllpiaaaGreatDoor Go.ChangeShapes Go.WideShapes Go.ChangeAt Go.RowKit
theorem rowsBulk_len : ∀ (rows : List (List V)),(∀ r ∈ rows,1 ≤ cellsBulk r) → rows.length ≤ rowsBulk rows
  | [],_=>Nat.zero_le _
  | r :: rows,h=>by
    have h1:=h r (List.mem_cons_self ..)
    have h2:=rowsBulk_len rows fun x hx=>h x (List.mem_cons_of_mem _ hx)
    simp only[List.length_cons,rowsBulk]
    omega
theorem rowsBulk_mem : ∀ {rows : List (List V)} {r : List V},r ∈ rows → cellsBulk r ≤ rowsBulk rows
  | x :: rows,r,h=>by
    simp only[rowsBulk]
    rcases List.mem_cons.1 h with rfl | h
    · omega
    · have:=rowsBulk_mem h
      omega
theorem cellsBulk_mem : ∀ {vs : List V} {v : V},v ∈ vs → v.bulk ≤ cellsBulk vs
  | x :: vs,v,h=>by
    simp only[cellsBulk]
    rcases List.mem_cons.1 h with rfl | h
    · omega
    · have:=cellsBulk_mem h
      omega
section
variable {P : Program} {t : TypeId} {ts : List TypeId}
def ArgOpen (P : Program) (t : TypeId) {α : Type} (mk : α → V) (wf : α → Prop) : Prop :=
  ∀ (H : Type) (e : TypeId × Value → H) (W : World) (base : Nat) (v : Value) (d : DataW H) (ps : List MemPlace),Value.okWide P W .any base t v → DataW.Trod e P W 0 (fun _=>true) true t v d ps →
    ∃ a,wf a ∧ VR noPlace [] W false (mk a) v ∧ (mk a).bulk ≤ Rows.uptoBulk d ∧ ∀ (W' : World) (sp : Nat → Bool),Keeps W W' → (∀ g,g < W.heap.size → sp g = true) → DataW.Trod e P W' 0 sp true t v d ps
theorem Opens.argOpen {α : Type} {mk : α → V} {wf : α → Prop} (h : Opens P t (fun a=>[mk a]) wf) (hk : (match P.underlying t with | some .bool | some (.int _) | some .string | some (.slice _)=>true | _=>false) = true) : ArgOpen P t mk wf :=
  fun _ _ _ _ _ _ _ hval hd=>h.arg hk hval hd
theorem Opens.argsOpen {fs : Array Field} {α : Type} {en : α → List V} {wf : α → Prop} (ht : P.underlying t = some (.struct fs)) (h : Opens P t en wf) : ArgOpen P t (fun a=>.agg (en a)) wf :=
  fun _ _ _ _ _ _ _ hval hd=>h.args ht hval hd
def ArgsOpen (P : Program) (ts : List TypeId) {α : Type} (en : α → List V) (wf : α → Prop) : Prop :=
  ∀ (H : Type) (e : TypeId × Value → H) (W : World) (base : Nat) (vs : List Value) (ds : List (DataW H)) (ps : List MemPlace),(∀ (j : Nat) (t : TypeId) (v : Value),ts[j]? = some t → vs[j]? = some v → Value.okWide P W .any base t v) →
    DataW.TrodAll e P W 0 (fun _=>true) true ts vs ds ps →
    ∃ a,wf a ∧ (en a).length = vs.length ∧ ds.length = ts.length ∧ (∀ (j : Nat) (x : V) (u : Value),(en a)[j]? = some x → vs[j]? = some u → VR noPlace [] W false x u) ∧ cellsBulk (en a) ≤ Rows.uptoBulkAll ds ∧
      ∀ (W' : World) (sp : Nat → Bool),Keeps W W' → (∀ g,g < W.heap.size → sp g = true) → DataW.TrodAll e P W' 0 sp true ts vs ds ps
theorem ArgsOpen.nil : ArgsOpen P [] (fun _ : Unit=>[]) (fun _=>True):=by
  intro H e W base vs ds ps _ h
  obtain ⟨rfl,rfl,rfl⟩:=trodAll_nil h
  exact ⟨(),trivial,rfl,rfl,fun j x u hx=>by simp at hx,by simp [cellsBulk,Rows.uptoBulkAll],fun _ _ _ _=>trodAll_mk0⟩
theorem ArgsOpen.cons {α β : Type} {mk : α → V} {wf : α → Prop} {en : β → List V} {wf' : β → Prop} (h : ArgOpen P t mk wf) (k : ArgsOpen P ts en wf') : ArgsOpen P (t :: ts) (fun p : α × β=>mk p.1 :: en p.2) (fun p=>wf p.1 ∧ wf' p.2):=by
  intro H e W base vs ds ps hval htr
  obtain ⟨v,vs',d,ds',p,q,rfl,rfl,rfl,h0,r0⟩:=trodAll_cons htr
  obtain ⟨a,a1,a2,a3,a4⟩:=h H e W base v d p (hval 0 t v rfl rfl) h0
  obtain ⟨b,b1,b2,b3,b4,b5,b6⟩:=k H e W base vs' ds' q (fun j t' v' ht hv=>hval (j + 1) t' v' (by simpa using ht) (by simpa using hv)) r0
  refine ⟨(a,b),⟨a1,b1⟩,by simp [b2],by simp [b3],fun j x u hx hu=>?_,by simp only[cellsBulk,Rows.uptoBulkAll];omega,fun W' sp hk hs=>trodAll_cons_mk (a4 W' sp hk hs) (b6 W' sp hk hs)⟩
  cases j with
  | zero=>simp at hx hu;subst hx hu;exact a2
  | succ j=>exact b4 j x u (by simpa using hx) (by simpa using hu)
theorem law_contract {α : Type} {en : α → List V} {wf : α → Prop} {f : FuncId} {fn : Func} {s : ChangeSpec} {tb : TypeId} (ho : ArgsOpen P fn.params.toList en wf)
    (hcall : ∀ a,wf a → cellsBulk (en a) ≤ 1048576 → CallA P f (en a) [] fun r _=>r = .bool true)
    (hv : s.vars = []) (hr : fn.resultTypes = #[tb]) (htb : P.underlying tb = some .bool)
    (hsp : ∀ (H : Type) (ds : List (DataW H)),ds.length = fn.params.toList.length → (s.fn H ds).results = [.lit (.bool true)] ∧ (s.fn H ds).args = ds ∧ (s.fn H ds).vars = [])
    {H : Type} {enc : TypeId × Value → H} {W : World} {base : Nat} {args : Array Value} {ds gs : List (DataW H)} {before : List MemPlace}
    (hval : ∀ (j : Nat) t v,fn.params[j]? = some t → args[j]? = some v → Value.okWide P W .any base t v)
    (hW : DataW.Whole enc P fn.params.toList s.vars false W args.toList ds gs before) (hk : Rows.uptoSmall H (ds ++ gs) = true) (ht : TabW W:=by intro p hp;cases hp) :
    Calls P f args W fun e W'=>∃ v,e = .returned v ∧ s.post enc P fn false true false false W args v W':=by
  have hW':=hW
  obtain ⟨p,q,hA0,hV,rfl,hfz,hnd⟩:=hW
  have hA : DataW.TrodAll enc P W 0 (fun _=>true) true fn.params.toList args.toList ds p:=hA0
  rw[hv] at hV
  obtain ⟨rfl,rfl⟩:=trodVars_none hV
  rw[List.append_nil] at hk
  obtain ⟨a,a1,a2,a3,a4,a5,a6⟩:=ho H enc W base args.toList ds p (fun j t v ht hv=>hval j t v (by simpa using ht) (by simpa using hv)) hA
  have hb : Rows.uptoBulkAll ds ≤ 1048576:=of_decide_eq_true hk
  obtain ⟨s1,s2,s3⟩:=hsp H ds a3
  refine calls_law (hcall a a1 (by omega)) ?_ ht hW' hv hr htb (by rw[List.append_nil];exact s1) (by rw[List.append_nil];exact s2) (by rw[List.append_nil];exact s3) fun W' sp hk hs=>⟨p,a6 W' sp hk hs⟩
  have:=VRs.of (ρ:=noPlace) (S:=[]) (w:=W) a2 a4
  simpa using this
end
end Go.AL
