/- Abstract values and their relation to the model's values in memory: pure data for immutable slices, identities for owned objects. -/
import Derived.WalkKit
import Derived.WalkSpells
import Derived.WalkLawsBesides
import Derived.Maps.RangeRun
namespace Go.AL
class Mode : Type where
  strict : Prop
  err : Value := .nilIface
  errOk : err = .nilIface ∨ ∃ te pe, err = .iface te pe := by exact .inl rfl
@[reducible] def Mode.tight (m : Mode) : Mode := { strict := True, err := m.err, errOk := m.errOk }
class LooseM [Mode] : Prop where
  no : ¬ Mode.strict
set_option linter.unusedSectionVars false
variable [Mode]
set_option linter.unusedSimpArgs false
set_option linter.unusedVariables false
inductive V where
  | undef
  | skipped
  | int (k : IntKind) (n : Int)
  | bool (b : Bool)
  | str (s : List UInt8)
  | nilSl
  | sl (sz : Nat) (rows : List (List V))
  | msl (id ver off len : Nat)
  | nilPtr
  | cptr (cells : List V)
  | ptr (id ver row off : Nat)
  | func (f : FuncId) (first cap : List V)
  | nilFn
  | iface (t : TypeId) (v : V)
  | nilIface
  | agg (vs : List V)
  | tup (vs : List V)
  | nilMap
  | mapv (id ver : Nat)
  deriving Inhabited
inductive KD1 where
  | int (k : IntKind)
  | str
  deriving DecidableEq, Inhabited
inductive KD where
  | one (k : KD1)
  | st (l : List KD1)
  deriving DecidableEq, Inhabited
def isK1 : KD1 → V → Bool
  | .int k, .int k' _ => decide (k = k')
  | .str, .str _ => true
  | _, _ => false
def isKL : List KD1 → List V → Bool
  | [], [] => true
  | k :: l, v :: vs => isK1 k v && isKL l vs
  | _, _ => false
def isKV : KD → V → Bool
  | .one k, v => isK1 k v
  | .st l, .agg vs => isKL l vs
  | _, _ => false
inductive MX where
  | free
  | held (it : Nat)
  | opened (j n : Nat)
  | iter (of : Option (Nat × Nat)) (cur : Option (V × V))
  deriving Inhabited
def MX.isIt : MX → Bool
  | .iter _ _ => true
  | _ => false
structure MapC where
  kd : KD
  rows : List (V × V)
  x : MX
def MapC.addr (m : MapC) (g : Nat) : Value := if m.x.isIt = true then .pointer (some ⟨g, 0, none⟩) else .map (some g)
inductive Cont where
  | arr (e : TypeId) (sz : Nat) (rows : List (List V))
  | mp (m : MapC)
structure Obj where
  ver : Nat
  st : Option Cont
abbrev Store := List Obj
abbrev Place := Nat → Option (Nat × Nat)
def Cont.like : Cont → Cont → Prop
  | .arr e sz rows, .arr e' sz' rows' => e = e' ∧ sz = sz' ∧ rows.length = rows'.length
  | .mp m, .mp m' => m.kd = m'.kd ∧ m.x.isIt = m'.x.isIt
  | _, _ => False
def Unowned (ρ : Place) (S : Store) (w : World) (g : Nat) : Prop :=
  g < w.heap.size ∧ ∀ (id : Nat) (o : Obj) (c : Cont) (g' tot : Nat), S[id]? = some o → o.st = some c → ρ id = some (g', tot) → g' ≠ g
def tabs : List (Nat × Array Value) := [(0, #[.int .u64 1, .int .u64 10, .int .u64 100, .int .u64 1000, .int .u64 10000, .int .u64 100000, .int .u64 1000000, .int .u64 10000000, .int .u64 100000000, .int .u64 1000000000, .int .u64 10000000000, .int .u64 100000000000, .int .u64 1000000000000, .int .u64 10000000000000, .int .u64 100000000000000, .int .u64 1000000000000000, .int .u64 10000000000000000, .int .u64 100000000000000000, .int .u64 1000000000000000000, .int .u64 10000000000000000000])]
def TabOk (ρ : Place) (S : Store) (w : World) : Prop := ∀ p ∈ tabs, Unowned ρ S w p.1 ∧ ∃ t fr, w.heap[p.1]? = some (.cells p.2 t fr)
inductive VR (ρ : Place) (S : Store) (w : World) : Bool → V → Value → Prop
  | undef {b u} : VR ρ S w b .undef u
  | skipped {b} : VR ρ S w b .skipped Go.undef
  | int {b k n} : VR ρ S w b (.int k n) (.int k n)
  | bool {b x} : VR ρ S w b (.bool x) (.bool x)
  | str {b l} {s : ByteArray} (h : s.data.toList = l) (hm : s.size ≤ maxLen) : VR ρ S w b (.str l) (.string s)
  | nilSl {b} : VR ρ S w b .nilSl (.slice none 0 0)
  | slNil {b} {sz : Nat} {p : Option Addr} : VR ρ S w b (.sl sz []) (.slice p 0 0)
  | sl {b} {sz : Nat} {rows : List (List V)} {g off len cap : Nat} (c : Nat → Nat → Value) (hu : Unowned ρ S w g) (hlen : len = rows.length) (hcap : len ≤ cap) (hmax : cap ≤ maxLen)
      (hsz : ∀ (i : Nat) (r : List V), rows[i]? = some r → r.length = sz)
      (hc : ∀ (i : Nat) (r : List V), rows[i]? = some r → ∀ (j : Nat) (v : V), r[j]? = some v → w.cell? ⟨g, off + (i * sz + j), none⟩ = some (c i j))
      (hv : ∀ (i : Nat) (r : List V), rows[i]? = some r → ∀ (j : Nat) (v : V), r[j]? = some v → VR ρ S w true v (c i j))
      (h1 : ∀ (i : Nat) (r : List V), rows[i]? = some r → ∀ (j : Nat) (v : V), r[j]? = some v → (c i j).oneCell' = true) :
      VR ρ S w b (.sl sz rows) (.slice (some ⟨g, off, none⟩) len cap)
  | msl {id ver off len : Nat} {u} (hlt : id < S.length) (hver : ∀ (o : Obj), S[id]? = some o → ver ≤ o.ver)
      (h : ∀ (e : TypeId) (sz : Nat) (rows : List (List V)), S[id]? = some ⟨ver, some (.arr e sz rows)⟩ → off + len ≤ rows.length ∧
        ((ρ id = none ∧ u = .slice none 0 0 ∧ len = 0 ∧ off = 0) ∨ (∃ g tot cap, ρ id = some (g, tot) ∧ u = .slice (some ⟨g, off * sz, none⟩) len cap ∧ off + len ≤ tot ∧ len ≤ cap ∧ off + cap ≤ tot) ∨ (0 < off ∧ len = 0 ∧ ∃ p, u = .slice (some p) 0 0)))
      (h1 : ∃ (p : Option Addr) (c : Nat), u = .slice p len c) : VR ρ S w false (.msl id ver off len) u
  | nilPtr {b} : VR ρ S w b .nilPtr (.pointer none)
  | cptr {b} {cells : List V} {g off : Nat} (c : Nat → Value) (hu : Unowned ρ S w g) (hc : ∀ (j : Nat) (v : V), cells[j]? = some v → w.cell? ⟨g, off + j, none⟩ = some (c j))
      (hv : ∀ (j : Nat) (v : V), cells[j]? = some v → VR ρ S w true v (c j)) (h1 : ∀ (j : Nat) (v : V), cells[j]? = some v → (c j).oneCell' = true) : VR ρ S w b (.cptr cells) (.pointer (some ⟨g, off, none⟩))
  | ptr {id ver row off : Nat} {u} (hlt : id < S.length) (hver : ∀ (o : Obj), S[id]? = some o → ver ≤ o.ver)
      (h : ∀ (e : TypeId) (sz : Nat) (rows : List (List V)), S[id]? = some ⟨ver, some (.arr e sz rows)⟩ → ∃ g tot, ρ id = some (g, tot) ∧ u = .pointer (some ⟨g, row * sz + off, none⟩))
      (h1 : u.oneCell' = true) : VR ρ S w false (.ptr id ver row off) u
  | func {b f} {vs ws : List V} {us xs : Array Value} (c d : Nat → Value) (hl : us.size = vs.length) (hm : xs.size = ws.length)
      (hc : ∀ (j : Nat) (v : V), vs[j]? = some v → us[j]? = some (c j)) (hv : ∀ (j : Nat) (v : V), vs[j]? = some v → VR ρ S w b v (c j))
      (hd : ∀ (j : Nat) (v : V), ws[j]? = some v → xs[j]? = some (d j)) (hw : ∀ (j : Nat) (v : V), ws[j]? = some v → VR ρ S w b v (d j)) :
      VR ρ S w b (.func f vs ws) (.func (.func f) us xs)
  | nilFn {b} : VR ρ S w b .nilFn .nilFunc
  | iface {b t v u} (h : VR ρ S w b v u) : VR ρ S w b (.iface t v) (.iface t u)
  | nilIface {b} : VR ρ S w b .nilIface .nilIface
  | agg {b} {vs : List V} {us : Array Value} (c : Nat → Value) (hl : us.size = vs.length) (hc : ∀ (j : Nat) (v : V), vs[j]? = some v → us[j]? = some (c j))
      (hv : ∀ (j : Nat) (v : V), vs[j]? = some v → VR ρ S w b v (c j)) : VR ρ S w b (.agg vs) (.agg us)
  | tup {b} {vs : List V} {us : Array Value} (c : Nat → Value) (hl : us.size = vs.length) (hc : ∀ (j : Nat) (v : V), vs[j]? = some v → us[j]? = some (c j))
      (hv : ∀ (j : Nat) (v : V), vs[j]? = some v → VR ρ S w b v (c j)) : VR ρ S w b (.tup vs) (.tuple us)
  | nilMap {b} : VR ρ S w b .nilMap (.map none)
  | mapv {id ver : Nat} {u} (hlt : id < S.length) (hver : ∀ (o : Obj), S[id]? = some o → ver ≤ o.ver)
      (h : ∀ (rows : MapC), S[id]? = some ⟨ver, some (.mp rows)⟩ → ∃ g, ρ id = some (g, 0) ∧ u = rows.addr g) (h1 : u.oneCell' = true) : VR ρ S w false (.mapv id ver) u
def MR (ρ : Place) (S : Store) (w : World) (m : MapC) (es : Array MapEntry) : Prop :=
  es.size = m.rows.length ∧ (∀ p ∈ m.rows, isKV m.kd p.1 = true) ∧ ∀ (i : Nat) (k v : V), m.rows[i]? = some (k, v) → ∃ e, es[i]? = some e ∧ VR ρ S w false k e.key ∧ VR ρ S w false v e.val
def Stp (es : Array MapEntry) (ck : Nat) : Prop := (∀ x ∈ es.toList, x.born < ck) ∧ (es.toList.map (·.born)).Nodup
def ER (ρ : Place) (S : Store) (w : World) (rows : List (V × V)) (l : List MapEntry) : Prop :=
  l.length = rows.length ∧ ∀ (i : Nat) (k v : V), rows[i]? = some (k, v) → ∃ e, l[i]? = some e ∧ VR ρ S w false k e.key ∧ VR ρ S w false v e.val
def LinkOk (ρ : Place) (w : World) (cur : Option (V × V)) (l : List MapEntry) (ce : MapEntry) (mid gm since : Nat) (seen : Array Nat) : Prop :=
  ρ mid = some (gm, 0) ∧ ∃ (es : Array MapEntry), w.heap[gm]? = some (.map es since) ∧ Stp es since ∧ l.Perm (leftOf es seen).toList ∧ (cur.isSome = true → ce ∈ es.toList ∧ ∃ seen0 : Array Nat, seen = seen0.push ce.born)
def IterOk (ρ : Place) (S : Store) (w : World) (id : Nat) (cur : Option (V × V)) (l : List MapEntry) (ce : MapEntry) (g : Nat) : Option (Nat × Nat) → Prop
  | none => ∃ since seen last, w.heap[g]? = some (.mapIter none since seen last)
  | some (mid, mver) => ∃ gm since seen, w.heap[g]? = some (.mapIter (some gm) since seen since) ∧
      ∀ (kd : KD) (rows : List (V × V)), S[mid]? = some ⟨mver, some (.mp ⟨kd, rows, .held id⟩)⟩ → LinkOk ρ w cur l ce mid gm since seen
def CurOk (ρ : Place) (S : Store) (w : World) (cur : Option (V × V)) (ce : MapEntry) : Prop := ∀ p, cur = some p → VR ρ S w false p.1 ce.key ∧ VR ρ S w false p.2 ce.val
def HR (ρ : Place) (S : Store) (w : World) (id : Nat) (m : MapC) (g : Nat) : Prop :=
  match m.x with
  | .iter of cur => (∀ p ∈ m.rows, isKV m.kd p.1 = true) ∧ ∃ l ce, ER ρ S w m.rows l ∧ CurOk ρ S w cur ce ∧ IterOk ρ S w id cur l ce g of
  | .opened j n => ∃ es ck, w.heap[g]? = some (.map es ck) ∧ MR ρ S w m es ∧ Stp es ck ∧ ∃ e, es[j]? = some e ∧ e.born = n
  | _ => ∃ es ck, w.heap[g]? = some (.map es ck) ∧ MR ρ S w m es ∧ Stp es ck
structure Inv (ρ : Place) (S : Store) (w : World) : Prop where
  rows : ∀ (id ver : Nat) (e : TypeId) (sz : Nat) (rows : List (List V)), S[id]? = some ⟨ver, some (.arr e sz rows)⟩ → (∀ (i : Nat) (r : List V), rows[i]? = some r → r.length = sz) ∧
    ((ρ id = none ∧ rows = []) ∨ ∃ g tot cur, ρ id = some (g, tot) ∧ rows.length ≤ tot ∧ tot ≤ maxLen ∧ w.heap[g]? = some (.cells cur e (0, 0)) ∧ cur.size = tot * sz ∧
      ∀ (i : Nat) (r : List V), rows[i]? = some r → ∀ (j : Nat) (v : V), r[j]? = some v → ∃ u, cur[i * sz + j]? = some u ∧ VR ρ S w false v u ∧ u.oneCell' = true)
  inj : ∀ (i j : Nat) (o p : Obj) (c d : Cont) (g x y : Nat), S[i]? = some o → S[j]? = some p → o.st = some c → p.st = some d → ρ i = some (g, x) → ρ j = some (g, y) → i = j
  maps : ∀ (id ver : Nat) (rows : MapC), S[id]? = some ⟨ver, some (.mp rows)⟩ → ∃ g, ρ id = some (g, 0) ∧ HR ρ S w id rows g
  tab : TabOk ρ S w
structure Ext (ρ : Place) (S : Store) (w : World) (ρ' : Place) (S' : Store) (w' : World) : Prop where
  os : w'.os = w.os
  tape : w'.tape = w.tape ∧ (Mode.strict → w.drawn ≤ w'.drawn)
  output : w'.output = w.output
  size : w.heap.size ≤ w'.heap.size
  un : ∀ g, Unowned ρ S w g → Unowned ρ' S' w' g ∧ w'.heap[g]? = w.heap[g]?
  len : S.length ≤ S'.length
  ver : ∀ (id : Nat) (o o' : Obj), S[id]? = some o → S'[id]? = some o' → o.ver ≤ o'.ver ∧ (o'.ver = o.ver → ∀ c', o'.st = some c' → ∃ c, o.st = some c ∧ c.like c' ∧ ρ' id = ρ id)
theorem Cont.like_refl (c : Cont) : c.like c := by cases c; exact ⟨rfl, rfl, rfl⟩; exact ⟨rfl, rfl⟩
theorem Cont.like_trans {a b c : Cont} (h : a.like b) (k : b.like c) : a.like c := by
  cases a <;> cases b <;> cases c <;> simp only [Cont.like] at *
  · obtain ⟨h1, h2, h3⟩ := h
    obtain ⟨k1, k2, k3⟩ := k
    exact ⟨h1.trans k1, h2.trans k2, h3.trans k3⟩
  · exact ⟨h.1.trans k.1, h.2.trans k.2⟩
theorem Ext.refl (ρ : Place) (S : Store) (w : World) : Ext ρ S w ρ S w :=
  ⟨rfl, ⟨rfl, by first | exact Nat.le_refl _ | exact Nat.zero_le _ | exact fun _ => Nat.le_refl _ | exact fun _ => Nat.le_succ _⟩, rfl, Nat.le_refl _, fun _ h => ⟨h, rfl⟩, Nat.le_refl _, fun id o o' h h' => by
    rw [h] at h'; cases h'; exact ⟨Nat.le_refl _, fun _ c hc => ⟨c, hc, Cont.like_refl c, rfl⟩⟩⟩
theorem Ext.trans {ρ ρ' ρ'' : Place} {S S' S'' : Store} {w w' w'' : World} (h : Ext ρ S w ρ' S' w') (k : Ext ρ' S' w' ρ'' S'' w'') : Ext ρ S w ρ'' S'' w'' where
  os := k.os.trans h.os
  tape := ⟨k.tape.1.trans h.tape.1, by first | exact Nat.le_trans h.tape.2 k.tape.2 | exact Nat.zero_le _ | exact fun e => Nat.le_trans (h.tape.2 e) (k.tape.2 e)⟩
  output := k.output.trans h.output
  size := Nat.le_trans h.size k.size
  un g hg := by
    obtain ⟨a, b⟩ := h.un g hg
    obtain ⟨c, d⟩ := k.un g a
    exact ⟨c, d.trans b⟩
  len := Nat.le_trans h.len k.len
  ver id o o'' ho ho'' := by
    have hlt : id < S'.length := Nat.lt_of_lt_of_le (List.getElem?_eq_some_iff.1 ho).1 h.len
    have ho' : S'[id]? = some S'[id] := List.getElem?_eq_getElem hlt
    obtain ⟨a, b⟩ := h.ver id o _ ho ho'
    obtain ⟨c, d⟩ := k.ver id _ o'' ho' ho''
    refine ⟨Nat.le_trans a c, fun he c'' hc'' => ?_⟩
    obtain ⟨c', hc', hl', hr'⟩ := d (by omega) c'' hc''
    obtain ⟨c, hc, hl, hr⟩ := b (by omega) c' hc'
    exact ⟨c, hc, Cont.like_trans hl hl', hr'.trans hr⟩
theorem cell_of_block {w w' : World} {g : Nat} (h : w'.heap[g]? = w.heap[g]?) (o : Nat) : w'.cell? ⟨g, o, none⟩ = w.cell? ⟨g, o, none⟩ := by
  simp [World.cell?, h]
theorem VR.imm {ρ ρ' : Place} {S S' : Store} {w w' : World} (h : ∀ g, Unowned ρ S w g → Unowned ρ' S' w' g ∧ w'.heap[g]? = w.heap[g]?) {b : Bool} {v : V} {u : Value} (hv : VR ρ S w b v u) :
    b = true → ∀ b', VR ρ' S' w' b' v u := by
  induction hv with
  | undef => exact fun _ _ => .undef
  | skipped => exact fun _ _ => .skipped
  | int => exact fun _ _ => .int
  | bool => exact fun _ _ => .bool
  | str h1 h2 => exact fun _ _ => .str h1 h2
  | nilSl => exact fun _ _ => .nilSl
  | slNil => exact fun _ _ => .slNil
  | sl c hu hlen hcap hmax hsz hc hv h1 ih =>
    intro _ b'
    exact .sl c (h _ hu).1 hlen hcap hmax hsz (fun i r hi j v hj => by rw [cell_of_block (h _ hu).2]; exact hc i r hi j v hj) (fun i r hi j v hj => ih i r hi j v hj rfl true) h1
  | msl => intro hb; cases hb
  | nilPtr => exact fun _ _ => .nilPtr
  | cptr c hu hc hv h1 ih =>
    intro _ b'
    exact .cptr c (h _ hu).1 (fun j v hj => by rw [cell_of_block (h _ hu).2]; exact hc j v hj) (fun j v hj => ih j v hj rfl true) h1
  | ptr => intro hb; cases hb
  | func c d hl hm hc hv hd hw ih1 ih2 => exact fun hb b' => .func c d hl hm hc (fun j v hj => ih1 j v hj hb b') hd (fun j v hj => ih2 j v hj hb b')
  | nilFn => exact fun _ _ => .nilFn
  | iface h ih => exact fun hb b' => .iface (ih hb b')
  | nilIface => exact fun _ _ => .nilIface
  | agg c hl hc hv ih => exact fun hb b' => .agg c hl hc fun j v hj => ih j v hj hb b'
  | tup c hl hc hv ih => exact fun hb b' => .tup c hl hc fun j v hj => ih j v hj hb b'
  | nilMap => exact fun _ _ => .nilMap
  | mapv => intro hb; cases hb
theorem VR.weaken {ρ : Place} {S : Store} {w : World} {v : V} {u : Value} (hv : VR ρ S w true v u) (b : Bool) : VR ρ S w b v u :=
  hv.imm (fun _ h => ⟨h, rfl⟩) rfl b
theorem VR.ext {ρ ρ' : Place} {S S' : Store} {w w' : World} (h : Ext ρ S w ρ' S' w') {b : Bool} {v : V} {u : Value} (hv : VR ρ S w b v u) : VR ρ' S' w' b v u := by
  have key : ∀ id ver, id < S.length → (∀ (o : Obj), S[id]? = some o → ver ≤ o.ver) →
      id < S'.length ∧ (∀ (o : Obj), S'[id]? = some o → ver ≤ o.ver) ∧
      ∀ (e : TypeId) (sz : Nat) (rows : List (List V)), S'[id]? = some ⟨ver, some (.arr e sz rows)⟩ → ∃ rows0, S[id]? = some ⟨ver, some (.arr e sz rows0)⟩ ∧ rows0.length = rows.length ∧ ρ' id = ρ id := by
    intro id ver hlt hver
    have ho : S[id]? = some S[id] := List.getElem?_eq_getElem hlt
    have h1 := hver _ ho
    refine ⟨Nat.lt_of_lt_of_le hlt h.len, fun o' ho' => Nat.le_trans h1 (h.ver id _ o' ho ho').1, fun e sz rows hs => ?_⟩
    obtain ⟨h2, h3⟩ := h.ver id _ _ ho hs
    simp only at h2
    obtain ⟨c, hc, hl, hr⟩ := h3 (by simp only; omega) _ rfl
    have hv' : S[id].ver = ver := by omega
    cases c with
    | mp rows0 => exact hl.elim
    | arr e0 sz0 rows0 =>
      simp only [Cont.like] at hl
      obtain ⟨rfl, rfl, hrl⟩ := hl
      refine ⟨rows0, ?_, hrl, hr⟩
      rw [ho]
      rw [← hv', ← hc]
  have keyM : ∀ id ver, id < S.length → (∀ (o : Obj), S[id]? = some o → ver ≤ o.ver) →
      id < S'.length ∧ (∀ (o : Obj), S'[id]? = some o → ver ≤ o.ver) ∧
      ∀ (rows : MapC), S'[id]? = some ⟨ver, some (.mp rows)⟩ → ∃ rows0, S[id]? = some ⟨ver, some (.mp rows0)⟩ ∧ rows0.x.isIt = rows.x.isIt ∧ ρ' id = ρ id := by
    intro id ver hlt hver
    have ho : S[id]? = some S[id] := List.getElem?_eq_getElem hlt
    have h1 := hver _ ho
    refine ⟨Nat.lt_of_lt_of_le hlt h.len, fun o' ho' => Nat.le_trans h1 (h.ver id _ o' ho ho').1, fun rows hs => ?_⟩
    obtain ⟨h2, h3⟩ := h.ver id _ _ ho hs
    simp only at h2
    obtain ⟨c, hc, hl, hr⟩ := h3 (by simp only; omega) _ rfl
    have hv' : S[id].ver = ver := by omega
    cases c with
    | arr e0 sz0 rows0 => exact hl.elim
    | mp rows0 =>
      refine ⟨rows0, ?_, hl.2, hr⟩
      rw [ho]
      rw [← hv', ← hc]
  induction hv with
  | undef => exact .undef
  | skipped => exact .skipped
  | int => exact .int
  | bool => exact .bool
  | str h1 h2 => exact .str h1 h2
  | nilSl => exact .nilSl
  | slNil => exact .slNil
  | sl c hu hlen hcap hmax hsz hc hv h1 ih =>
    exact .sl c (h.un _ hu).1 hlen hcap hmax hsz (fun i r hi j v hj => by rw [cell_of_block (h.un _ hu).2]; exact hc i r hi j v hj) ih h1
  | msl hlt hver hh h1 =>
    obtain ⟨a, b, c⟩ := key _ _ hlt hver
    refine .msl a b (fun e sz rows hs => ?_) h1
    obtain ⟨rows0, h0, hl, hr⟩ := c e sz rows hs
    have := hh e sz rows0 h0
    rw [hr, ← hl]
    exact this
  | nilPtr => exact .nilPtr
  | cptr c hu hc hv h1 ih => exact .cptr c (h.un _ hu).1 (fun j v hj => by rw [cell_of_block (h.un _ hu).2]; exact hc j v hj) ih h1
  | ptr hlt hver hh h1 =>
    obtain ⟨a, b, c⟩ := key _ _ hlt hver
    refine .ptr a b (fun e sz rows hs => ?_) h1
    obtain ⟨rows0, h0, hl, hr⟩ := c e sz rows hs
    rw [hr]
    exact hh e sz rows0 h0
  | func c d hl hm hc hv hd hw ih1 ih2 => exact .func c d hl hm hc ih1 hd ih2
  | nilFn => exact .nilFn
  | iface h ih => exact .iface ih
  | nilIface => exact .nilIface
  | agg c hl hc hv ih => exact .agg c hl hc ih
  | tup c hl hc hv ih => exact .tup c hl hc ih
  | nilMap => exact .nilMap
  | mapv hlt hver hh h1 =>
    obtain ⟨a, b, c⟩ := keyM _ _ hlt hver
    refine .mapv a b (fun rows hs => ?_) h1
    obtain ⟨rows0, h0, hit, hr⟩ := c rows hs
    rw [hr]
    have := hh rows0 h0
    unfold MapC.addr at this ⊢
    rwa [hit] at this
def VRs (ρ : Place) (S : Store) (w : World) (vs : List V) (us : Array Value) : Prop :=
  us.size = vs.length ∧ ∀ (j : Nat) (v : V), vs[j]? = some v → ∃ u, us[j]? = some u ∧ VR ρ S w false v u
theorem VRs.ext {ρ ρ' : Place} {S S' : Store} {w w' : World} (h : Ext ρ S w ρ' S' w') {vs : List V} {us : Array Value} (hv : VRs ρ S w vs us) : VRs ρ' S' w' vs us :=
  ⟨hv.1, fun j v hj => let ⟨u, a, b⟩ := hv.2 j v hj; ⟨u, a, b.ext h⟩⟩
theorem MR.ext {ρ ρ' : Place} {S S' : Store} {w w' : World} {rows : MapC} {es : Array MapEntry} (h : MR ρ S w rows es) (hx : Ext ρ S w ρ' S' w') : MR ρ' S' w' rows es :=
  ⟨h.1, h.2.1, fun i k v hi => let ⟨e, a, b, c⟩ := h.2.2 i k v hi; ⟨e, a, b.ext hx, c.ext hx⟩⟩
theorem ER.ext {ρ ρ' : Place} {S S' : Store} {w w' : World} {rows : List (V × V)} {l : List MapEntry} (h : ER ρ S w rows l) (hx : Ext ρ S w ρ' S' w') : ER ρ' S' w' rows l :=
  ⟨h.1, fun i k v hi => let ⟨e, a, b, c⟩ := h.2 i k v hi; ⟨e, a, b.ext hx, c.ext hx⟩⟩
theorem HR.there {ρ : Place} {S : Store} {w : World} {id g : Nat} {m : MapC} (h : HR ρ S w id m g) : ∃ o, w.heap[g]? = some o := by
  unfold HR at h
  split at h
  · rename_i of cur _
    obtain ⟨_, l, ce, _, _, h⟩ := h
    cases of with
    | none => obtain ⟨_, _, _, h⟩ := h; exact ⟨_, h⟩
    | some p => obtain ⟨_, _, _, h, _⟩ := h; exact ⟨_, h⟩
  · obtain ⟨_, _, h, _⟩ := h; exact ⟨_, h⟩
  · obtain ⟨_, _, h, _⟩ := h; exact ⟨_, h⟩
theorem CurOk.ext {ρ ρ' : Place} {S S' : Store} {w w' : World} {cur : Option (V × V)} {ce : MapEntry} (h : CurOk ρ S w cur ce) (hx : Ext ρ S w ρ' S' w') : CurOk ρ' S' w' cur ce := fun p hp => ⟨(h p hp).1.ext hx, (h p hp).2.ext hx⟩
theorem HR.ext {ρ ρ' : Place} {S S' : Store} {w w' : World} {id g : Nat} {m : MapC} (h : HR ρ S w id m g) (hx : Ext ρ S w ρ' S' w') (hb : w'.heap[g]? = w.heap[g]?)
    (hl : ∀ (mid mver : Nat) (kd : KD) (rows : List (V × V)), S'[mid]? = some ⟨mver, some (.mp ⟨kd, rows, .held id⟩)⟩ → S[mid]? = some ⟨mver, some (.mp ⟨kd, rows, .held id⟩)⟩ ∧ ρ' mid = ρ mid ∧ ∀ gm, ρ mid = some (gm, 0) → w'.heap[gm]? = w.heap[gm]?) : HR ρ' S' w' id m g := by
  unfold HR at h ⊢
  split at h
  · rename_i of cur he
    obtain ⟨k1, l, ce, k2, k3, h⟩ := h
    refine ⟨k1, l, ce, k2.ext hx, k3.ext hx, ?_⟩
    cases of with
    | none => obtain ⟨a, b, c, h⟩ := h; exact ⟨a, b, c, hb.trans h⟩
    | some p =>
      obtain ⟨mid, mver⟩ := p
      obtain ⟨gm, since, seen, h1, h2⟩ := h
      refine ⟨gm, since, seen, hb.trans h1, fun kd rows hs => ?_⟩
      obtain ⟨a, b, c⟩ := hl mid mver kd rows hs
      obtain ⟨d, es, e1, e2, e3⟩ := h2 kd rows a
      exact ⟨b.trans d, es, (c gm d).trans e1, e2, e3⟩
  · obtain ⟨es, ck, h1, h2, h3⟩ := h
    exact ⟨es, ck, hb.trans h1, h2.ext hx, h3⟩
  · obtain ⟨es, ck, h1, h2, h3⟩ := h
    exact ⟨es, ck, hb.trans h1, h2.ext hx, h3⟩
theorem HR.entries {ρ : Place} {S : Store} {w : World} {id g : Nat} {m : MapC} (h : HR ρ S w id m g) : (∀ p ∈ m.rows, isKV m.kd p.1 = true) ∧ (∃ l, ER ρ S w m.rows l) ∧ ∀ of p, m.x = .iter of (some p) → ∃ u1 u2, VR ρ S w false p.1 u1 ∧ VR ρ S w false p.2 u2 := by
  unfold HR at h
  split at h
  · rename_i of cur he
    obtain ⟨k1, l, ce, k2, k3, _⟩ := h
    refine ⟨k1, ⟨l, k2⟩, fun of' p hp => ?_⟩
    rw [he] at hp
    cases hp
    exact ⟨_, _, k3 p rfl⟩
  · rename_i he
    obtain ⟨es, ck, h1, ⟨h2, h3, h4⟩, _⟩ := h
    refine ⟨h3, ⟨es.toList, by simpa using h2, fun i k v hik => ?_⟩, fun of p hp => by rw [he] at hp; cases hp⟩
    obtain ⟨e, a, b, c⟩ := h4 i k v hik
    exact ⟨e, by simpa using a, b, c⟩
  · rename_i hne _
    obtain ⟨es, ck, h1, ⟨h2, h3, h4⟩, _⟩ := h
    refine ⟨h3, ⟨es.toList, by simpa using h2, fun i k v hik => ?_⟩, fun of p hp => absurd hp (hne _ _)⟩
    obtain ⟨e, a, b, c⟩ := h4 i k v hik
    exact ⟨e, by simpa using a, b, c⟩
theorem Inv.block {ρ : Place} {S : Store} {w : World} (hi : Inv ρ S w) {id : Nat} {o : Obj} {c : Cont} {g tot : Nat} (hs : S[id]? = some o) (hc : o.st = some c) (hr : ρ id = some (g, tot)) : g < w.heap.size := by
  obtain ⟨ver, st⟩ := o
  simp only at hc
  subst hc
  cases c with
  | arr e sz rows =>
    obtain ⟨_, h2⟩ := hi.rows id ver e sz rows hs
    rcases h2 with ⟨h2, _⟩ | ⟨g', tot', cur, a, b, c, d, f, k⟩
    · rw [hr] at h2; cases h2
    · rw [hr] at a
      cases a
      exact (Array.getElem?_eq_some_iff.1 d).1
  | mp rows =>
    obtain ⟨g', a, b⟩ := hi.maps id ver rows hs
    rw [hr] at a
    cases a
    obtain ⟨_, b⟩ := b.there
    exact (Array.getElem?_eq_some_iff.1 b).1
theorem tab_of {ρ ρ' : Place} {S S' : Store} {w w' : World} (hi : Inv ρ S w) (hx : Ext ρ S w ρ' S' w') : TabOk ρ' S' w' := fun p hp => by
  obtain ⟨a, t, fr, b⟩ := hi.tab p hp
  obtain ⟨c, d⟩ := hx.un _ a
  exact ⟨c, t, fr, d.trans b⟩
theorem maps_of {ρ ρ' : Place} {S S' : Store} {w w' : World} (hi : Inv ρ S w) (hx : Ext ρ S w ρ' S' w') (h : ∀ (id ver : Nat) (rows : MapC), S'[id]? = some ⟨ver, some (.mp rows)⟩ → S[id]? = some ⟨ver, some (.mp rows)⟩ ∧ ρ' id = ρ id)
    (hb : ∀ (id ver : Nat) (rows : MapC) (g : Nat), S'[id]? = some ⟨ver, some (.mp rows)⟩ → ρ id = some (g, 0) → w'.heap[g]? = w.heap[g]?) :
    ∀ (id ver : Nat) (rows : MapC), S'[id]? = some ⟨ver, some (.mp rows)⟩ → ∃ g, ρ' id = some (g, 0) ∧ HR ρ' S' w' id rows g := by
  intro id ver rows hs
  obtain ⟨h1, h2⟩ := h id ver rows hs
  obtain ⟨g, a, b⟩ := hi.maps id ver rows h1
  exact ⟨g, by rw [h2]; exact a, b.ext hx (hb id ver rows g hs a) fun mid mver kd rows' hs' => ⟨(h _ _ _ hs').1, (h _ _ _ hs').2, fun gm hg => hb _ _ _ gm hs' hg⟩⟩
theorem Unowned.alloc {ρ : Place} {S : Store} {w : World} {g : Nat} (h : Unowned ρ S w g) (o : Go.Obj) : Unowned ρ S (w.alloc o) g :=
  ⟨by have := h.1; simp; omega, h.2⟩
theorem Ext.alloc (ρ : Place) (S : Store) (w : World) (o : Go.Obj) : Ext ρ S w ρ S (w.alloc o) where
  os := rfl
  tape := ⟨rfl, by first | exact Nat.le_refl _ | exact Nat.zero_le _ | exact fun _ => Nat.le_refl _ | exact fun _ => Nat.le_succ _⟩
  output := rfl
  size := by simp
  un g hg := ⟨hg.alloc o, Go.heap_alloc_old w o hg.1⟩
  len := Nat.le_refl _
  ver := (Ext.refl ρ S w).ver
theorem Ext.drew (ρ : Place) (S : Store) (w : World) : Ext ρ S w ρ S w.drew where
  os := rfl
  tape := ⟨rfl, by first | exact Nat.le_succ _ | exact Nat.zero_le _ | exact fun _ => Nat.le_refl _ | exact fun _ => Nat.le_succ _⟩
  output := rfl
  size := Nat.le_refl _
  un _ hg := ⟨hg, rfl⟩
  len := Nat.le_refl _
  ver := (Ext.refl ρ S w).ver
theorem Inv.same {ρ : Place} {S : Store} {w w' : World} (hi : Inv ρ S w) (h : Ext ρ S w ρ S w')
    (hb : ∀ (id : Nat) (o : Obj) (c : Cont) (g tot : Nat), S[id]? = some o → o.st = some c → ρ id = some (g, tot) → w'.heap[g]? = w.heap[g]?) : Inv ρ S w' where
  rows id ver e sz rows hs := by
    obtain ⟨h1, h2⟩ := hi.rows id ver e sz rows hs
    refine ⟨h1, ?_⟩
    rcases h2 with h2 | ⟨g, tot, cur, a, b, c, d, f, k⟩
    · exact .inl h2
    · refine .inr ⟨g, tot, cur, a, b, c, ?_, f, fun i r hr j v hj => ?_⟩
      · rw [hb id _ _ g tot hs rfl a]; exact d
      · obtain ⟨u, hu, hv, h1⟩ := k i r hr j v hj
        exact ⟨u, hu, hv.ext h, h1⟩
  inj := hi.inj
  maps := maps_of hi h (fun id ver rows hs => ⟨hs, rfl⟩) fun id ver rows g hs hr => hb id _ _ g 0 hs rfl hr
  tab := tab_of hi h
theorem Inv.alloc {ρ : Place} {S : Store} {w : World} (hi : Inv ρ S w) (o : Go.Obj) : Inv ρ S (w.alloc o) := by
  refine hi.same (Ext.alloc ρ S w o) fun id ob c g _ hs hst hr => ?_
  exact Go.heap_alloc_old w o (hi.block hs hst hr)
theorem Inv.drew {ρ : Place} {S : Store} {w : World} (hi : Inv ρ S w) : Inv ρ S w.drew :=
  hi.same (Ext.drew ρ S w) fun _ _ _ _ _ _ _ _ => rfl
theorem Unowned.new {ρ : Place} {S : Store} {w : World} (hi : Inv ρ S w) (o : Go.Obj) : Unowned ρ S (w.alloc o) w.heap.size := by
  refine ⟨by simp, fun id ob c g tot hs hst hr => ?_⟩
  have := hi.block hs hst hr
  omega
end Go.AL
