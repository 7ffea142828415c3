/- The operations, compiled: what each is without the program's tables, and what it gives on abstract values; each is sound of the model's operation. -/
import Derived.Test.YtkdbghhdklfoiaaDoorSAl1
namespace Go.AL
set_option linter.unusedSectionVars false
variable [Mode]
set_option linter.unusedSimpArgs false
set_option linter.unusedVariables false
def V.ofCell : Value → Option V
  | .int k n => some (.int k n)
  | .bool b => some (.bool b)
  | .string s => if s.size ≤ maxLen then some (.str s.data.toList) else none
  | .slice none 0 0 => some .nilSl
  | .pointer none => some .nilPtr
  | .nilFunc => some .nilFn
  | .nilIface => some .nilIface
  | .map none => some .nilMap
  | _ => none
def V.ofCells : List Value → Option (List V)
  | [] => some []
  | u :: r => match V.ofCell u, V.ofCells r with
    | some v, some vs => some (v :: vs)
    | _, _ => none
def V.ofVal : Value → Option V
  | .agg cs => (V.ofCells cs.toList).map .agg
  | v => V.ofCell v
inductive Opd where
  | t (n : Nat)
  | c (v : V)
  deriving Inhabited
def opd : Operand → Option Opd
  | .tmp t => some (.t t)
  | .const v => (V.ofVal v).map .c
  | .global _ => none
  | .func f => some (.c (.func f [] []))
def ev (e : Nat → V) : Opd → V
  | .t n => e n
  | .c v => v
def V.cellOk : V → Bool
  | .agg _ | .tup _ | .undef | .skipped => false
  | _ => true
def V.cells? : V → Option (List V)
  | .agg vs => if vs.all V.cellOk then some vs else none
  | .undef | .skipped | .tup _ => none
  | v => some [v]
theorem V.ofCell_rel {ρ : Place} {S : Store} {w : World} {u : Value} {v : V} (h : V.ofCell u = some v) (b : Bool) : VR ρ S w b v u := by
  unfold V.ofCell at h
  split at h <;> first | (cases h; done) | (simp only [Option.some.injEq] at h; subst h; constructor; done) | skip
  split at h
  · rename_i hs
    simp only [Option.some.injEq] at h
    subst h
    exact .str rfl hs
  · cases h
theorem V.ofCells_rel {ρ : Place} {S : Store} {w : World} (b : Bool) : ∀ {us : List Value} {vs : List V}, V.ofCells us = some vs → us.length = vs.length ∧ ∀ (j : Nat) (v : V), vs[j]? = some v → ∃ u, us[j]? = some u ∧ VR ρ S w b v u
  | [], vs, h => by simp only [V.ofCells, Option.some.injEq] at h; subst h; simp
  | u :: us, vs, h => by
    simp only [V.ofCells] at h
    split at h
    · rename_i v vs' h1 h2
      simp only [Option.some.injEq] at h
      subst h
      obtain ⟨a, c⟩ := V.ofCells_rel (ρ := ρ) (S := S) (w := w) b h2
      refine ⟨by simp [a], fun j x hx => ?_⟩
      cases j with
      | zero => simp at hx; subst hx; exact ⟨u, by simp, V.ofCell_rel h1 b⟩
      | succ j => simp at hx; obtain ⟨y, hy, hf⟩ := c j x hx; exact ⟨y, by simpa using hy, hf⟩
    · cases h
theorem VR.agg' {ρ : Place} {S : Store} {w : World} {b : Bool} {vs : List V} {us : Array Value} (hl : us.size = vs.length) (h : ∀ (j : Nat) (v : V), vs[j]? = some v → ∃ u, us[j]? = some u ∧ VR ρ S w b v u) : VR ρ S w b (.agg vs) (.agg us) :=
  .agg (fun j => us[j]?.getD Go.undef) hl (fun j v hv => by obtain ⟨u, hu, _⟩ := h j v hv; simp [hu]) (fun j v hv => by obtain ⟨u, hu, hr⟩ := h j v hv; simpa [hu] using hr)
theorem VR.tup' {ρ : Place} {S : Store} {w : World} {b : Bool} {vs : List V} {us : Array Value} (hl : us.size = vs.length) (h : ∀ (j : Nat) (v : V), vs[j]? = some v → ∃ u, us[j]? = some u ∧ VR ρ S w b v u) : VR ρ S w b (.tup vs) (.tuple us) :=
  .tup (fun j => us[j]?.getD Go.undef) hl (fun j v hv => by obtain ⟨u, hu, _⟩ := h j v hv; simp [hu]) (fun j v hv => by obtain ⟨u, hu, hr⟩ := h j v hv; simpa [hu] using hr)
theorem V.ofVal_rel {ρ : Place} {S : Store} {w : World} {u : Value} {v : V} (h : V.ofVal u = some v) (b : Bool) : VR ρ S w b v u := by
  unfold V.ofVal at h
  split at h
  · rename_i cs
    simp only [Option.map_eq_some_iff] at h
    obtain ⟨vs, hm, rfl⟩ := h
    obtain ⟨h1, h2⟩ := V.ofCells_rel (ρ := ρ) (S := S) (w := w) b hm
    exact .agg' (by simpa using h1) (fun j v hv => by obtain ⟨y, hy, hf⟩ := h2 j v hv; exact ⟨y, by simpa using hy, hf⟩)
  · exact V.ofCell_rel h b
def Slots (ρ : Place) (S : Store) (w : World) (e : Nat → V) (a : Act) : Prop := ∀ t, VR ρ S w false (e t) (a.tmps.getD t Go.undef)
theorem opd_rel {ρ : Place} {S : Store} {w : World} {e : Nat → V} {a : Act} (he : Slots ρ S w e a) {x : Operand} {y : Opd} (h : opd x = some y) : VR ρ S w false (ev e y) (a.eval x) := by
  unfold opd at h
  split at h
  · simp only [Option.some.injEq] at h; subst h; exact he _
  · simp only [Option.map_eq_some_iff] at h
    obtain ⟨v, hv, rfl⟩ := h
    exact V.ofVal_rel hv false
  · cases h
  · simp only [Option.some.injEq] at h; subst h
    exact .func (fun _ => Go.undef) (fun _ => Go.undef) rfl rfl (by simp) (by simp) (by simp) (by simp)
theorem cells_one {u : Value} (h : u.oneCell' = true) : u.cells = #[u] := by cases u <;> first | rfl | cases h
section
variable {ρ : Place} {S : Store} {w : World} {b : Bool} {u : Value}
theorem VR.int_inv {k : IntKind} {n : Int} (h : VR ρ S w b (.int k n) u) : u = .int k n := by cases h; rfl
theorem VR.bool_inv {x : Bool} (h : VR ρ S w b (.bool x) u) : u = .bool x := by cases h; rfl
theorem VR.str_inv {l : List UInt8} (h : VR ρ S w b (.str l) u) : ∃ s : ByteArray, u = .string s ∧ s.data.toList = l ∧ s.size ≤ maxLen := by
  cases h with | str h1 h2 => exact ⟨_, rfl, h1, h2⟩
theorem VR.skipped_inv (h : VR ρ S w b .skipped u) : u = Go.undef := by cases h; rfl
theorem VR.one {v : V} (h : VR ρ S w b v u) (hc : v.cellOk = true) : u.oneCell' = true := by
  cases h <;> first | rfl | (simp [V.cellOk] at hc; done) | assumption | (rename_i h1; obtain ⟨_, _, rfl⟩ := h1; rfl)
theorem VR.cells {v : V} {vs : List V} (h : VR ρ S w b v u) (hc : v.cells? = some vs) :
    u.cells.size = vs.length ∧ ∀ (j : Nat) (x : V), vs[j]? = some x → ∃ y, u.cells[j]? = some y ∧ VR ρ S w b x y ∧ y.oneCell' = true := by
  by_cases ha : ∃ l, v = .agg l
  · obtain ⟨l, rfl⟩ := ha
    simp only [V.cells?] at hc
    split at hc
    · rename_i hall
      simp only [Option.some.injEq] at hc
      subst hc
      cases h with
      | agg c hl hc hv => exact ⟨hl, fun j x hx => ⟨c j, hc j x hx, hv j x hx, (hv j x hx).one (List.all_eq_true.1 hall x (List.mem_of_getElem? hx))⟩⟩
    · cases hc
  · have hok : v.cellOk = true ∧ vs = [v] := by
      cases v <;> simp only [V.cells?, Option.some.injEq, reduceCtorEq] at hc <;> first | exact ⟨rfl, hc.symm⟩ | exact absurd ⟨_, rfl⟩ ha
    obtain ⟨h1, rfl⟩ := hok
    have h2 := h.one h1
    rw [cells_one h2]
    refine ⟨rfl, fun j z hz => ?_⟩
    cases j with
    | zero => simp at hz; subst hz; exact ⟨u, by simp, h, h2⟩
    | succ j => simp at hz
end
mutual
def V.isImm : V → Bool
  | .ptr .. => false
  | .msl .. => false
  | .mapv .. => false
  | .agg vs => V.allImm vs
  | .tup vs => V.allImm vs
  | .iface _ v => v.isImm
  | .func _ a b => V.allImm a && V.allImm b
  | _ => true
def V.allImm : List V → Bool
  | [] => true
  | v :: r => v.isImm && V.allImm r
end
inductive XOp where
  | stuck
  | eqP (neg : Bool)
  | toU
  | frU (t : TypeId) (sz : Nat)
  | sdat
  | lk (kd : KD) (zero : V) (ok : Bool)
  | lenM
  | eqA (l : List KD1) (neg : Bool)
  | sl3 (sz : Nat)
  | ent
  | s2b
  deriving Inhabited
inductive AOp where
  | mv (x : Opd)
  | pick (c a b : Opd)
  | bin (op : BinOp) (x y : Opd)
  | eqb (neg : Bool) (x y : Opd)
  | not (x : Opd)
  | neg (x : Opd)
  | lenS (x : Opd)
  | lenA (x : Opd)
  | idxS (x i : Opd)
  | idxA (sz : Nat) (x i : Opd)
  | idxR (len sz : Nat) (x i : Opd)
  | idxV (len : Nat) (x i : Opd)
  | faddr (off : Nat) (x : Opd)
  | ld1 (x : Opd)
  | ldn (n : Nat) (x : Opd)
  | fld1 (off : Nat) (x : Opd)
  | fldn (off n : Nat) (x : Opd)
  | conv (k : IntKind) (x : Opd)
  | ext (i : Nat) (x : Opd)
  | build (zero : List V) (parts : List (Nat × Nat × Opd))
  | bsl (sz : Nat) (zero : List V) (n : Nat) (parts : List (Nat × Opd))
  | boxI (x : Opd)
  | mkfn (f : FuncId) (first cap : List Opd)
  | slS (x : Opd) (lo hi : Option Opd)
  | slA (sz : Nat) (x : Opd) (lo hi : Option Opd)
  | minmax (mn : Bool) (x y : Opd)
  | nilChk (x : Opd)
  | mkIf (t : TypeId) (x : Opd)
  | tas (t : TypeId) (zero : V) (ok : Bool) (x : Opd)
  | isNil (k : Nat) (neg : Bool) (x : Opd)
  | b2s (x : Opd)
  | xo (op : XOp) (l : List Opd)
  deriving Inhabited
def binI (op : BinOp) (k : IntKind) (a : Int) (k' : IntKind) (b : Int) : Option V :=
    if k = k' then
      match op with
      | .add => some (.int k (k.wrap (a + b)))
      | .sub => some (.int k (k.wrap (a - b)))
      | .mul => some (.int k (k.wrap (a * b)))
      | .quo => if b = 0 then none else some (.int k (k.wrap (a.tdiv b)))
      | .rem => if b = 0 then none else some (.int k (a.tmod b))
      | .and => some (.int k (k.wrap ((BitVec.ofInt k.bits a &&& BitVec.ofInt k.bits b).toNat)))
      | .or => some (.int k (k.wrap ((BitVec.ofInt k.bits a ||| BitVec.ofInt k.bits b).toNat)))
      | .xor => some (.int k (k.wrap ((BitVec.ofInt k.bits a ^^^ BitVec.ofInt k.bits b).toNat)))
      | .andNot => some (.int k (k.wrap ((BitVec.ofInt k.bits a &&& ~~~(BitVec.ofInt k.bits b)).toNat)))
      | .eql => some (.bool (decide (a = b)))
      | .neq => some (.bool (!decide (a = b)))
      | .lss => some (.bool (decide (a < b)))
      | .leq => some (.bool (decide (a ≤ b)))
      | .gtr => some (.bool (decide (b < a)))
      | .geq => some (.bool (decide (b ≤ a)))
      | _ => none
    else none
def shiftV (left : Bool) (k : IntKind) (a b : Int) : Option V :=
  if 0 ≤ b then some (.int k (if left then k.wrap (a * 2 ^ (min b.toNat k.bits)) else a.fdiv (2 ^ (min b.toNat k.bits)))) else none
def binV (op : BinOp) : V → V → Option V
  | .int k a, .int k' b =>
    match op with
    | .shl => shiftV true k a b
    | .shr => shiftV false k a b
    | _ => binI op k a k' b
  | .str a, .str b =>
    match op with
    | .add => if a.length + b.length ≤ maxLen then some (.str (a ++ b)) else none
    | .eql => some (.bool (decide (a = b)))
    | .neq => some (.bool (!decide (a = b)))
    | .lss => some (.bool (Op.bytesLess a b))
    | .gtr => some (.bool (!(Op.bytesLess a b || decide (a = b))))
    | .leq => some (.bool (Op.bytesLess a b || decide (a = b)))
    | .geq => some (.bool (!Op.bytesLess a b))
    | _ => none
  | _, _ => none
def Store.obj? (S : Store) (id ver : Nat) : Option (TypeId × Nat × List (List V)) :=
  match S[id]? with
  | some ⟨v, some (.arr e sz rows)⟩ => if v = ver then some (e, sz, rows) else none
  | _ => none
def splice (cells : List V) (off : Nat) (vs : List V) : List V := cells.take off ++ vs ++ cells.drop (off + vs.length)
def fillV (e : Nat → V) (cells : List V) : List (Nat × Nat × Opd) → Option (List V)
  | [] => some cells
  | (off, size, x) :: rest =>
    match (ev e x).cells? with
    | some vs => if vs.length = size ∧ off + size ≤ cells.length then fillV e (splice cells off vs) rest else none
    | none => none
def zrows (zero : List V) (n : Nat) : List (List V) := List.replicate n zero
def fillR (e : Nat → V) (sz : Nat) (rows : List (List V)) : List (Nat × Opd) → Option (List (List V))
  | [] => some rows
  | (i, x) :: rest =>
    match (ev e x).cells? with
    | some vs => if vs.length = sz ∧ i < rows.length then fillR e sz (rows.set i vs) rest else none
    | none => none
def evs (e : Nat → V) (l : List Opd) : List V := l.map (ev e)
def bound (e : Nat → V) (d : Nat) : Option Opd → Option Int
  | none => some d
  | some x => match ev e x with
    | .int _ n => some n
    | _ => none
def Store.mp? (S : Store) (id ver : Nat) : Option (KD × List (V × V) × MX) :=
  match S[id]? with
  | some ⟨v, some (.mp m)⟩ => if v = ver then some (m.kd, m.rows, m.x) else none
  | _ => none
def nilV (S : Store) : Nat → V → Option Bool
  | 0, .nilSl => some true
  | 0, .sl _ (_ :: _) => some false
  | 0, .msl id ver _ len => if (S.obj? id ver).isSome ∧ 0 < len then some false else none
  | 1, .nilPtr => some true
  | 1, .cptr _ => some false
  | 1, .ptr id ver _ _ => if (S.obj? id ver).isSome then some false else none
  | 2, .nilIface => some true
  | 2, .iface _ _ => some false
  | 3, .nilFn => some true
  | 3, .func _ _ _ => some false
  | 4, .nilMap => some true
  | 4, .mapv id ver => match S.mp? id ver with
    | some (_, _, x) => if x.isIt = false then some false else none
    | none => none
  | _, _ => none
def bytesV : List (List V) → Option (List UInt8)
  | [] => some []
  | [.int .u8 n] :: r => match bytesV r with
    | some l => some (UInt8.ofNat n.toNat :: l)
    | none => none
  | _ :: _ => none
def eqPV (neg : Bool) (x y : V) (S : Store) : Option V :=
  match x, y with
  | .ptr id ver row off, .ptr id' ver' row' off' => if id = id' ∧ ver = ver' ∧ row = row' ∧ off = off' ∧ (S.obj? id ver).isSome = true then some (.bool (!neg)) else if id ≠ id' ∧ (S.obj? id ver).isSome = true ∧ (S.obj? id' ver').isSome = true then some (.bool neg) else none
  | _, _ => none
def toUV (x : V) (S : Store) : Option V :=
  match x with
  | .ptr id ver row off => match S.obj? id ver with
    | some (_, sz, rows) => if row < rows.length ∧ off < sz then some (.ptr id ver row off) else none
    | none => none
  | _ => none
def frUV (t : TypeId) (sz : Nat) (x : V) (S : Store) : Option V :=
  match x with
  | .ptr id ver row off => match S.obj? id ver with
    | some (t', sz', rows) => if off = 0 ∧ t' = t ∧ sz' = sz ∧ row < rows.length then some (.ptr id ver row 0) else none
    | none => none
  | _ => none
def sdatV (x : V) (S : Store) : Option V :=
  match x with
  | .nilSl => some .nilPtr
  | .msl id ver off len => if 0 < len ∧ (S.obj? id ver).isSome = true then some (.ptr id ver off 0) else none
  | _ => none
def eqK1 : V → V → Bool
  | .int k a, .int k' b => decide (k = k') && decide (a = b)
  | .str a, .str b => decide (a = b)
  | _, _ => false
def eqKL : List V → List V → Bool
  | [], [] => true
  | a :: l, b :: m => eqK1 a b && eqKL l m
  | _, _ => false
def eqKV : V → V → Bool
  | .agg a, .agg b => eqKL a b
  | a, b => eqK1 a b
def findV (k : V) : List (V × V) → Option V
  | [] => none
  | p :: r => if eqKV k p.1 then some p.2 else findV k r
def putV (k v : V) : List (V × V) → List (V × V)
  | [] => [(k, v)]
  | p :: r => if eqKV k p.1 then (k, v) :: r else p :: putV k v r
def delV (k : V) : List (V × V) → List (V × V)
  | [] => []
  | p :: r => if eqKV k p.1 then r else p :: delV k r
def lkRes (zero : V) (ok : Bool) (o : Option V) : V := if ok then .tup [o.getD zero, .bool o.isSome] else o.getD zero
def lkO (kd : KD) (zero : V) (ok : Bool) (k : V) (o : Option (KD × List (V × V) × MX)) : Option V :=
  match o with
  | some (kd', rows, x) => if kd' = kd ∧ isKV kd k = true ∧ x.isIt = false then some (lkRes zero ok (findV k rows)) else none
  | none => none
def lkV (kd : KD) (zero : V) (ok : Bool) (m k : V) (S : Store) : Option V :=
  match m with
  | .nilMap => if isKV kd k = true then some (lkRes zero ok none) else none
  | .mapv id ver => lkO kd zero ok k (S.mp? id ver)
  | _ => none
def lenMO : Option (KD × List (V × V) × MX) → Option V
  | some (_, rows, x) => if x.isIt = false then some (.int .i64 rows.length) else none
  | none => none
def lenMV (m : V) (S : Store) : Option V :=
  match m with
  | .nilMap => some (.int .i64 0)
  | .mapv id ver => lenMO (S.mp? id ver)
  | _ => none
def entO2 (it : Nat) (p : V × V) : Option (KD × List (V × V) × MX) → Option V
  | some (_, _, .held it') => if it' = it then some (.tup [p.1, p.2]) else none
  | _ => none
def entO (it : Nat) (S : Store) : Option (KD × List (V × V) × MX) → Option V
  | some (_, _, .iter (some (id, ver)) (some p)) => entO2 it p (S.mp? id ver)
  | _ => none
def entV (m : V) (S : Store) : Option V :=
  match m with
  | .mapv it iver => entO it S (S.mp? it iver)
  | _ => none
def eqAV (l : List KD1) (neg : Bool) (x y : V) : Option V :=
  match x, y with
  | .agg a, .agg b => if isKL l a = true ∧ isKL l b = true then some (.bool (if neg then !eqKL a b else eqKL a b)) else none
  | _, _ => none
def sl3V (sz : Nat) (x h m : V) (S : Store) : Option V :=
  match x, h, m with
  | .nilSl, .int _ b, .int _ c => if b = 0 ∧ c = 0 then some .nilSl else none
  | .sl sz' rows, .int _ b, .int _ c => if sz' = sz ∧ 0 ≤ b ∧ b ≤ c ∧ c ≤ rows.length then some (.sl sz (rows.take b.toNat)) else none
  | .msl id ver off len, .int _ b, .int _ c => if ((S.obj? id ver).map (·.2.1)) = some sz ∧ 0 ≤ b ∧ b ≤ c ∧ c ≤ len then some (.msl id ver off b.toNat) else none
  | _, _, _ => none
def s2bV : V → Option V
  | .str l => some (.sl 1 (l.map fun b => [V.int .u8 (b.toNat : Nat)]))
  | _ => none
def xopV (op : XOp) (l : List V) (S : Store) : Option V :=
  match op, l with
  | .eqP neg, [x, y] => eqPV neg x y S
  | .toU, [x] => toUV x S
  | .frU t sz, [x] => frUV t sz x S
  | .sdat, [x] => sdatV x S
  | .lk kd zero ok, [m, k] => lkV kd zero ok m k S
  | .lenM, [m] => lenMV m S
  | .eqA l neg, [x, y] => eqAV l neg x y
  | .sl3 sz, [x, h, m] => sl3V sz x h m S
  | .ent, [m] => entV m S
  | .s2b, [x] => s2bV x
  | _, _ => none
def opV (e : Nat → V) (S : Store) : AOp → Option V
  | .mv x => some (ev e x)
  | .pick c a b => match ev e c with
    | .bool t => some (bif t then ev e a else ev e b)
    | _ => none
  | .bin op x y => binV op (ev e x) (ev e y)
  | .eqb neg x y => match ev e x, ev e y with
    | .bool a, .bool b => some (.bool (if neg then !(a == b) else a == b))
    | _, _ => none
  | .not x => match ev e x with
    | .bool a => some (.bool (!a))
    | _ => none
  | .neg x => match ev e x with
    | .int k n => some (.int k (k.wrap (0 - n)))
    | _ => none
  | .lenS x => match ev e x with
    | .str l => some (.int .i64 l.length)
    | _ => none
  | .lenA x => match ev e x with
    | .nilSl => some (.int .i64 0)
    | .sl _ rows => some (.int .i64 rows.length)
    | .msl _ _ _ len => some (.int .i64 len)
    | _ => none
  | .idxS x i => match ev e x, ev e i with
    | .str l, .int _ n => if 0 ≤ n then (l[n.toNat]?).map fun b => .int .u8 b.toNat else none
    | _, _ => none
  | .idxA sz x i => match ev e x, ev e i with
    | .sl sz' rows, .int _ n => if sz' = sz ∧ 0 ≤ n then (rows[n.toNat]?).map .cptr else none
    | .msl id ver off len, .int _ n => if 0 ≤ n ∧ n < len ∧ ((S.obj? id ver).map (·.2.1)) = some sz then some (.ptr id ver (off + n.toNat) 0) else none
    | _, _ => none
  | .idxR len sz x i => match ev e x, ev e i with
    | .cptr cells, .int _ n => if 0 ≤ n ∧ n < len then some (.cptr (cells.drop (n.toNat * sz))) else none
    | .ptr id ver row o, .int _ n => if 0 ≤ n ∧ n < len ∧ (S.obj? id ver).isSome then some (.ptr id ver row (o + n.toNat * sz)) else none
    | _, _ => none
  | .idxV len x i => match ev e x, ev e i with
    | .agg cells, .int _ n => if 0 ≤ n ∧ n < len then cells[n.toNat]? else none
    | _, _ => none
  | .faddr off x => match ev e x with
    | .cptr cells => some (.cptr (cells.drop off))
    | .ptr id ver row o => if (S.obj? id ver).isSome then some (.ptr id ver row (o + off)) else none
    | _ => none
  | .ld1 x => match ev e x with
    | .cptr cells => cells.head?
    | .ptr id ver row o => (S.obj? id ver).bind fun (_, _, rows) => (rows[row]?).bind fun r => r[o]?
    | _ => none
  | .ldn n x => match ev e x with
    | .cptr cells => if n ≤ cells.length then some (.agg (cells.take n)) else none
    | .ptr id ver row o => (S.obj? id ver).bind fun (_, _, rows) => (rows[row]?).bind fun r => if o + n ≤ r.length then some (.agg ((r.drop o).take n)) else none
    | _ => none
  | .fld1 off x => match ev e x with
    | .agg cells => cells[off]?
    | _ => none
  | .fldn off n x => match ev e x with
    | .agg cells => if off + n ≤ cells.length then some (.agg ((cells.drop off).take n)) else none
    | _ => none
  | .conv k x => match ev e x with
    | .int _ n => some (.int k (k.wrap n))
    | _ => none
  | .ext i x => match ev e x with
    | .tup vs => vs[i]?
    | _ => none
  | .build zero parts => (fillV e zero parts).map .agg
  | .boxI x => match (ev e x).cells? with
    | some vs => if V.allImm vs then some (.cptr vs) else none
    | none => none
  | .mkfn f first cap => some (.func f (evs e first) (evs e cap))
  | .slS x lo hi => match ev e x with
    | .str l => match bound e 0 lo, bound e l.length hi with
      | some a, some b => if 0 ≤ a ∧ a ≤ b ∧ b ≤ l.length then some (.str ((l.drop a.toNat).take (b.toNat - a.toNat))) else none
      | _, _ => none
    | _ => none
  | .slA sz x lo hi => match ev e x with
    | .nilSl => match bound e 0 lo, bound e 0 hi with
      | some a, some b => if a = 0 ∧ b = 0 then some .nilSl else none
      | _, _ => none
    | .sl sz' rows => match bound e 0 lo, bound e rows.length hi with
      | some a, some b => if sz' = sz ∧ 0 ≤ a ∧ a ≤ b ∧ b ≤ rows.length then some (.sl sz ((rows.drop a.toNat).take (b.toNat - a.toNat))) else none
      | _, _ => none
    | .msl id ver off len => match bound e 0 lo, bound e len hi with
      | some a, some b => if ((S.obj? id ver).map (·.2.1)) = some sz ∧ 0 ≤ a ∧ a ≤ b ∧ b ≤ len then some (.msl id ver (off + a.toNat) (b.toNat - a.toNat)) else none
      | _, _ => none
    | _ => none
  | .bsl sz zero n parts => match fillR e sz (zrows zero n) parts with
    | some rows => if (rows.all V.allImm) then some (.sl sz rows) else none
    | none => none
  | .minmax mn x y => match ev e x, ev e y with
    | .int k a, .int _ b => some (.int k (if mn then (if b < a then b else a) else (if b > a then b else a)))
    | _, _ => none
  | .nilChk x => match ev e x with
    | .ptr id ver row o => if (S.obj? id ver).isSome then some (.ptr id ver row o) else none
    | .cptr l => some (.cptr l)
    | .func f a b => some (.func f a b)
    | .iface t v => some (.iface t v)
    | _ => none
  | .mkIf t x => some (.iface t (ev e x))
  | .tas t zero ok x => match ev e x with
    | .iface t' v => if t' = t then some (if ok then .tup [v, .bool true] else v) else if ok then some (.tup [zero, .bool false]) else none
    | .nilIface => if ok then some (.tup [zero, .bool false]) else none
    | _ => none
  | .isNil k neg x => match nilV S k (ev e x) with
    | some b => some (.bool (if neg then !b else b))
    | none => none
  | .b2s x => match ev e x with
    | .nilSl => some (.str [])
    | .sl sz rows => if sz = 1 then (bytesV rows).map .str else none
    | .msl id ver off len => (S.obj? id ver).bind fun (_, sz, rows) => if sz = 1 then (bytesV ((rows.drop off).take len)).map .str else none
    | _ => none
  | .xo op l => xopV op (evs e l) S
end Go.AL
