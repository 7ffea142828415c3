/- Compiling an operation off the program's tables; what it then gives on abstract values is sound. -/
import Derived.Test.YtkdbghhdklfoiaaDoorSAl2
namespace Go.AL
set_option linter.unusedSectionVars false
variable [Mode]
set_option linter.unusedSimpArgs false
set_option linter.unusedVariables false
def opds : List Operand → Option (List Opd)
  | [] => some []
  | x :: r => match opd x, opds r with
    | some y, some ys => some (y :: ys)
    | _, _ => none
def oopd : Option Operand → Option (Option Opd)
  | none => some none
  | some x => (opd x).map some
def isAggT (P : Program) (t : TypeId) : Option Bool :=
  match P.underlying t with
  | some (.struct _) => some true
  | some (.array _ _) => some true
  | some _ => some false
  | none => none
def sizeT (P : Program) (t : TypeId) : Option Nat := (P.info? t).map (·.size)
def partsV (P : Program) (fields : Array Field) : List (Nat × Operand) → Option (List (Nat × Nat × Opd))
  | [] => some []
  | (i, x) :: r => match fields[i]?, opd x, partsV P fields r with
    | some f, some y, some ys => match sizeT P f.type with
      | some n => some ((f.offset, n, y) :: ys)
      | none => none
    | _, _, _ => none
def partsR : List (Nat × Operand) → Option (List (Nat × Opd))
  | [] => some []
  | (i, x) :: r => match opd x, partsR r with
    | some y, some ys => some ((i, y) :: ys)
    | _, _ => none
def rowT (P : Program) (t : TypeId) : Option (TypeId × Nat × List V) :=
  match P.underlying t with
  | some (.slice q) => match P.info? q with
    | some i => match (i.zero.bind V.ofVal).bind V.cells? with
      | some zero => if zero.length = i.size ∧ 0 < i.size then some (q, i.size, zero) else none
      | none => none
    | none => none
  | _ => none
def compBuiltin (P : Program) (b : Builtin) (args : List Opd) (argTypes : List TypeId) : Option AOp :=
  match b, args, argTypes with
  | .len, [x], [t] => match P.underlying t with
    | some .string => some (.lenS x)
    | some (.slice _) => some (.lenA x)
    | _ => none
  | .min, [x, y], _ => some (.minmax true x y)
  | .max, [x, y], _ => some (.minmax false x y)
  | _, _, _ => none
def compCall (P : Program) (c : Call) : Option AOp :=
  match opds c.args.toList with
  | none => none
  | some l => match c.callee with
    | .builtin b => compBuiltin P b l c.argTypes.toList
    | _ => none
def nilOpd (k : Nat) (z : Opd) : Bool := match z, k with
  | .c .nilSl, 0 => true
  | .c .nilPtr, 1 => true
  | .c .nilIface, 2 => true
  | .c .nilFn, 3 => true
  | .c .nilMap, 4 => true
  | _, _ => false
def compNil (k : Nat) (op : BinOp) (x y : Opd) : Option AOp :=
  match op with
  | .eql => if nilOpd k y then some (.isNil k false x) else if nilOpd k x then some (.isNil k false y) else none
  | .neq => if nilOpd k y then some (.isNil k true x) else if nilOpd k x then some (.isNil k true y) else none
  | _ => none
def compOp0 (P : Program) (o : Oper) : Option AOp :=
  match o.op with
  | .move x => (opd x).map .mv
  | .assign x => (opd x).map .mv
  | .pick c a b => match opd c, opd a, opd b with
    | some c, some a, some b => some (.pick c a b)
    | _, _, _ => none
  | .binOp op t x y _ => match opd x, opd y with
    | some x, some y => match P.underlying t with
      | some (.int _) => some (.bin op x y)
      | some .string => some (.bin op x y)
      | some .bool => match op with
        | .eql => some (.eqb false x y)
        | .neq => some (.eqb true x y)
        | _ => none
      | some (.slice _) => compNil 0 op x y
      | some (.pointer _) => compNil 1 op x y
      | some (.interface _) => compNil 2 op x y
      | some (.func _ _ _) => compNil 3 op x y
      | some (.map _ _) => compNil 4 op x y
      | _ => none
    | _, _ => none
  | .nilCheck x => (opd x).map .nilChk
  | .makeInterface t x => if P.concrete t then (opd x).map (.mkIf t) else none
  | .typeAssert x _ t ok => match opd x, P.concrete t, (P.info? t).bind (·.zero) with
    | some x, true, some z => (V.ofVal z).map fun z => .tas t z ok x
    | _, _, _ => none
  | .unOp .not _ x => (opd x).map .not
  | .unOp .neg _ x => (opd x).map .neg
  | .index t x i => match P.underlying t, opd x, opd i with
    | some .string, some x, some i => some (.idxS x i)
    | some (.array len e), some x, some i => match isAggT P e, sizeT P e with
      | some false, some 1 => some (.idxV len x i)
      | _, _ => none
    | _, _, _ => none
  | .indexAddr t x i => match P.underlying t, opd x, opd i with
    | some (.slice e), some x, some i => (sizeT P e).map fun n => .idxA n x i
    | some (.array len e), some x, some i => (sizeT P e).map fun n => .idxR len n x i
    | _, _, _ => none
  | .fieldAddr t x i => match P.underlying t, opd x with
    | some (.struct fields), some x => match fields[i]? with
      | some f => match sizeT P f.type with
        | some (_ + 1) => some (.faddr f.offset x)
        | _ => none
      | none => none
    | _, _ => none
  | .load t x => match opd x, isAggT P t with
    | some x, some true => (sizeT P t).map fun n => .ldn n x
    | some x, some false => some (.ld1 x)
    | _, _ => none
  | .field t x i => match P.underlying t, opd x with
    | some (.struct fields), some x => match fields[i]? with
      | some f => match isAggT P f.type with
        | some true => (sizeT P f.type).map fun n => .fldn f.offset n x
        | some false => some (.fld1 f.offset x)
        | none => none
      | none => none
    | _, _ => none
  | .convert src dst x => match P.underlying src, P.underlying dst, opd x with
    | some (.int _), some (.int k), some x => some (.conv k x)
    | some (.slice q), some .string, some x => match P.underlying q with
      | some (.int .u8) => some (.b2s x)
      | _ => none
    | _, _, _ => none
  | .extract x i => (opd x).map fun x => .ext i x
  | .build t parts => match P.underlying t, P.info? t with
    | some (.struct fields), some i => match i.zero with
      | some z => match V.ofVal z, partsV P fields parts.toList, fields.all (fun f => (sizeT P f.type).isSome) with
        | some (.agg vs), some ps, true => if vs.all V.cellOk then some (.build vs ps) else none
        | _, _, _ => none
      | none => none
    | _, _ => none
  | .box _ x => (opd x).map .boxI
  | .buildSlice t n parts => match rowT P t, partsR parts.toList with
    | some (_, sz, zero), some ps => if n * sz ≤ 2 ^ 24 then some (.bsl sz zero n ps) else none
    | _, _ => none
  | .makeFunc fn first cap => match fn, opds first.toList, opds cap.toList with
    | .func f, some a, some b => some (.mkfn f a b)
    | _, _, _ => none
  | .slice t x lo hi mx => match mx, P.underlying t, opd x, oopd lo, oopd hi with
    | none, some .string, some x, some lo, some hi => some (.slS x lo hi)
    | none, some (.slice e), some x, some lo, some hi => (sizeT P e).map fun n => .slA n x lo hi
    | _, _, _, _, _ => none
  | .call c => compCall P c
  | _ => none
def convX (P : Program) (src dst : TypeId) : Option XOp :=
  match P.underlying src, P.underlying dst with
  | some (.pointer t), some .unsafePointer => match P.info? t with
    | some j => if j.size = 0 then none else some .toU
    | none => none
  | some .unsafePointer, some (.pointer u) => match P.info? u with
    | some j => if j.size = 0 then none else some (.frU u j.size)
    | none => none
  | _, _ => none
def kd1Of (P : Program) (t : TypeId) : Option KD1 := match P.underlying t with
  | some (.int k) => some (.int k)
  | some .string => some .str
  | _ => none
def kdFields (P : Program) : List Field → Nat → Option (List KD1)
  | [], _ => some []
  | f :: r, n => match kd1Of P f.type, kdFields P r (n + 1) with
    | some k, some l => if f.offset = n ∧ isAggT P f.type = some false ∧ (f.name == "_") = false then some (k :: l) else none
    | _, _ => none
def kdStruct (P : Program) (t : TypeId) : Option (List KD1) := match P.underlying t with
  | some (.struct fs) => if P.stoodInHeld t = false then kdFields P fs.toList 0 else none
  | _ => none
def kdOf (P : Program) (t : TypeId) : Option KD := match kd1Of P t with
  | some k => some (.one k)
  | none => (kdStruct P t).map .st
def zeroV (P : Program) (t : TypeId) : Option V := match P.info? t with
  | some i => i.zero.bind V.ofVal
  | none => none
def kdArr (P : Program) (t : TypeId) : Option (List KD1) := match P.underlying t with
  | some (.array n e) => match kd1Of P e with
    | some k => if isAggT P e = some false ∧ P.cellsOf e = 1 then some (List.replicate n k) else none
    | none => none
  | _ => none
def partsA1 : List (Nat × Operand) → Option (List (Nat × Nat × Opd))
  | [] => some []
  | (i, x) :: r => match opd x, partsA1 r with
    | some x, some l => some ((i, 1, x) :: l)
    | _, _ => none
def compX (P : Program) (o : Oper) : AOp :=
  match o.op with
  | .binOp op t x y _ => match P.underlying t, opd x, opd y with
    | some (.pointer u), some x, some y => match op, P.info? u with
      | .eql, some j => if j.size = 0 then .xo .stuck [] else .xo (.eqP false) [x, y]
      | .neq, some j => if j.size = 0 then .xo .stuck [] else .xo (.eqP true) [x, y]
      | _, _ => .xo .stuck []
    | some (.struct _), some x, some y => match op, kdStruct P t, P.eqGuardType P.depth t with
      | .eql, some l, false => .xo (.eqA l false) [x, y]
      | .neq, some l, false => .xo (.eqA l true) [x, y]
      | _, _, _ => .xo .stuck []
    | some (.array _ _), some x, some y => match op, kdArr P t, P.eqGuardType P.depth t with
      | .eql, some l, false => .xo (.eqA l false) [x, y]
      | .neq, some l, false => .xo (.eqA l true) [x, y]
      | _, _, _ => .xo .stuck []
    | _, _, _ => .xo .stuck []
  | .build t parts => match P.underlying t, P.info? t, partsA1 parts.toList with
    | some (.array _ e), some i, some ps => match i.zero.bind V.ofVal, sizeT P e with
      | some (.agg vs), some 1 => if vs.all V.cellOk then .build vs ps else .xo .stuck []
      | _, _ => .xo .stuck []
    | _, _, _ => .xo .stuck []
  | .lookup t m k ok => match P.underlying t, opd m, opd k with
    | some (.map kt et), some m, some k => match kdOf P kt, zeroV P et with
      | some kd, some z => .xo (.lk kd z ok) [m, k]
      | _, _ => .xo .stuck []
    | _, _, _ => .xo .stuck []
  | .entry x => match opd x with
    | some x => .xo .ent [x]
    | none => .xo .stuck []
  | .convert src dst x => match convX P src dst, opd x with
    | some op, some x => .xo op [x]
    | none, some x => match P.underlying src, P.underlying dst with
      | some .string, some (.slice q) => match P.underlying q with
        | some (.int .u8) => .xo .s2b [x]
        | _ => .xo .stuck []
      | _, _ => .xo .stuck []
    | _, _ => .xo .stuck []
  | .call c => match c.callee, c.args.toList with
    | .builtin .unsafeSliceData, [x] => match opd x with
      | some x => .xo .sdat [x]
      | none => .xo .stuck []
    | .builtin .len, [x] => match c.argTypes.toList, opd x with
      | [t], some x => match P.underlying t with
        | some (.map _ _) => .xo .lenM [x]
        | _ => .xo .stuck []
      | _, _ => .xo .stuck []
    | _, _ => .xo .stuck []
  | .slice t x none (some h) (some m) => match P.underlying t, opd x, opd h, opd m with
    | some (.slice e), some x, some h, some m => match sizeT P e with
      | some n => .xo (.sl3 n) [x, h, m]
      | none => .xo .stuck []
    | _, _, _, _ => .xo .stuck []
  | _ => .xo .stuck []
def compOp (P : Program) (o : Oper) : Option AOp :=
  match compOp0 P o with
  | some a => some a
  | none => some (compX P o)
def Yields (P : Program) (o : Oper) (a : Act) (ρ : Place) (S : Store) (w : World) (v : V) : Prop :=
  ∃ u w', (execOp a.eval o).run P w = .ok (.value u) w' ∧ VR ρ S w' false v u ∧ Ext ρ S w ρ S w' ∧ Inv ρ S w'
section
variable {P : Program} {o : Oper} {a : Act} {ρ : Place} {S : Store} {w : World} {e : Nat → V} {v : V}
theorem Yields.same {u : Value} (hi : Inv ρ S w) (hr : (execOp a.eval o).run P w = .ok (.value u) w) (hv : VR ρ S w false v u) : Yields P o a ρ S w v :=
  ⟨u, w, hr, hv, Ext.refl _ _ _, hi⟩
theorem VR.ofBool {c d : Bool} (h : c = d) : VR ρ S w false (.bool c) (.bool d) := by subst h; exact .bool
theorem run_binI {op : BinOp} {t : TypeId} {k k' : IntKind} {i j : Int} (h : binI op k i k' j = some v) : ∃ u, (binOp op t (.int k i) (.int k' j)).run P w = .ok u w ∧ VR ρ S w false v u := by
  unfold binI at h
  split at h
  · rename_i hk
    subst hk
    cases op <;> simp only [reduceCtorEq, Option.some.injEq] at h
    case quo =>
      split at h
      · cases h
      · rename_i hj
        simp only [Option.some.injEq] at h
        subst h
        exact ⟨.int k (k.wrap (i.tdiv j)), by simp [binOp, Op.intDiv, hj], .int⟩
    case rem =>
      split at h
      · cases h
      · rename_i hj
        simp only [Option.some.injEq] at h
        subst h
        exact ⟨.int k (i.tmod j), by simp [binOp, Op.intDiv, hj], .int⟩
    case add => subst h; exact ⟨.int k (k.wrap (i + j)), by simp [binOp, Op.intArith], .int⟩
    case sub => subst h; exact ⟨.int k (k.wrap (i - j)), by simp [binOp, Op.intArith], .int⟩
    case mul => subst h; exact ⟨.int k (k.wrap (i * j)), by simp [binOp, Op.intArith], .int⟩
    case and => subst h; exact ⟨.int k (k.wrap ((BitVec.ofInt k.bits i &&& BitVec.ofInt k.bits j).toNat)), by simp [binOp, Op.intBits], .int⟩
    case or => subst h; exact ⟨.int k (k.wrap ((BitVec.ofInt k.bits i ||| BitVec.ofInt k.bits j).toNat)), by simp [binOp, Op.intBits], .int⟩
    case xor => subst h; exact ⟨.int k (k.wrap ((BitVec.ofInt k.bits i ^^^ BitVec.ofInt k.bits j).toNat)), by simp [binOp, Op.intBits], .int⟩
    case andNot => subst h; exact ⟨.int k (k.wrap ((BitVec.ofInt k.bits i &&& ~~~(BitVec.ofInt k.bits j)).toNat)), by simp [binOp, Op.intBits], .int⟩
    case eql => subst h; exact ⟨.bool (i == j), by simp [binOp, Op.intCmp], VR.ofBool (by rw [Bool.eq_iff_iff]; simp)⟩
    case neq => subst h; exact ⟨.bool (i != j), by simp [binOp, Op.intCmp], VR.ofBool (by rw [Bool.eq_iff_iff]; simp)⟩
    case lss => subst h; exact ⟨.bool (decide (i < j)), by simp [binOp, Op.intCmp], .bool⟩
    case leq => subst h; exact ⟨.bool (decide (i ≤ j)), by simp [binOp, Op.intCmp], .bool⟩
    case gtr => subst h; exact ⟨.bool (decide (j < i)), by simp [binOp, Op.intCmp], .bool⟩
    case geq => subst h; exact ⟨.bool (decide (j ≤ i)), by simp [binOp, Op.intCmp], .bool⟩
  · cases h
theorem run_shiftV {left : Bool} {t : TypeId} {k k' : IntKind} {i j : Int} (h : shiftV left k i j = some v) : ∃ u, (binOp (if left then .shl else .shr) t (.int k i) (.int k' j)).run P w = .ok u w ∧ VR ρ S w false v u := by
  unfold shiftV at h
  split at h
  · rename_i hj
    simp only [Option.some.injEq] at h
    subst h
    have hn : ¬ j < 0 := by omega
    cases left
    · exact ⟨_, by simp [binOp, Op.shift, hn], .int⟩
    · exact ⟨_, by simp [binOp, Op.shift, hn], .int⟩
  · cases h
theorem run_binV {op : BinOp} {t : TypeId} {x y : V} {p q : Value} (hx : VR ρ S w false x p) (hy : VR ρ S w false y q) (h : binV op x y = some v) :
    ∃ u, (binOp op t p q).run P w = .ok u w ∧ VR ρ S w false v u ∧ ((∃ k n, p = .int k n) ∨ ∃ s, p = .string s) := by
  unfold binV at h
  split at h
  · rename_i k i k' j
    have ep := hx.int_inv
    have eq := hy.int_inv
    subst ep eq
    split at h
    · obtain ⟨u, h1, h2⟩ := run_shiftV (P := P) (ρ := ρ) (S := S) (w := w) (t := t) (k' := k') h
      exact ⟨u, h1, h2, .inl ⟨_, _, rfl⟩⟩
    · obtain ⟨u, h1, h2⟩ := run_shiftV (P := P) (ρ := ρ) (S := S) (w := w) (t := t) (k' := k') h
      exact ⟨u, h1, h2, .inl ⟨_, _, rfl⟩⟩
    · obtain ⟨u, h1, h2⟩ := run_binI (P := P) (ρ := ρ) (S := S) (w := w) (t := t) h
      exact ⟨u, h1, h2, .inl ⟨_, _, rfl⟩⟩
  · rename_i l m
    obtain ⟨s, rfl, hs, _⟩ := hx.str_inv
    obtain ⟨s', rfl, hs', _⟩ := hy.str_inv
    have e1 : s.toList = l := by rw [ByteArray.toList_eq, hs]
    have e2 : s'.toList = m := by rw [ByteArray.toList_eq, hs']
    cases op <;> simp only [reduceCtorEq, Option.some.injEq] at h
    case add =>
      split at h
      · rename_i hl
        simp only [Option.some.injEq] at h
        subst h
        have hz : s.size + s'.size ≤ maxLen := by
          have a1 : s.size = l.length := by rw [← hs, Array.length_toList]; rfl
          have a2 : s'.size = m.length := by rw [← hs', Array.length_toList]; rfl
          omega
        refine ⟨.string (s ++ s'), ?_, .str (by rw [← hs, ← hs']; simp) (by rw [ByteArray.size_append]; exact hz), .inr ⟨_, rfl⟩⟩
        have hn : ¬ ((s.size + s'.size : Nat) : Int) > IntKind.i64.max := by
          have h63 : IntKind.i64.max = 9223372036854775807 := by decide
          rw [h63]
          unfold maxLen at hz
          omega
        simp only [binOp, Op.stringOp, if_neg hn]
        rfl
      · cases h
    case eql => subst h; exact ⟨.bool (l == m), by simp [binOp, Op.stringOp, e1, e2], VR.ofBool (by rw [Bool.eq_iff_iff]; simp), .inr ⟨_, rfl⟩⟩
    case neq => subst h; exact ⟨.bool (!(l == m)), by simp [binOp, Op.stringOp, e1, e2], VR.ofBool (by rw [Bool.eq_iff_iff]; simp), .inr ⟨_, rfl⟩⟩
    case lss => subst h; exact ⟨.bool (Op.bytesLess l m), by simp [binOp, Op.stringOp, e1, e2], .bool, .inr ⟨_, rfl⟩⟩
    case leq => subst h; exact ⟨.bool (Op.bytesLess l m || l == m), by simp [binOp, Op.stringOp, e1, e2], VR.ofBool (by rw [Bool.eq_iff_iff]; simp), .inr ⟨_, rfl⟩⟩
    case gtr => subst h; exact ⟨.bool (!(Op.bytesLess l m || l == m)), by simp [binOp, Op.stringOp, e1, e2], VR.ofBool (by rw [Bool.eq_iff_iff]; simp), .inr ⟨_, rfl⟩⟩
    case geq => subst h; exact ⟨.bool (!Op.bytesLess l m), by simp [binOp, Op.stringOp, e1, e2], .bool, .inr ⟨_, rfl⟩⟩
  · cases h
theorem sound_bin {op : BinOp} {t t' : TypeId} {x y : Operand} {x' y' : Opd} (ho : o.op = .binOp op t x y t') (he : Slots ρ S w e a) (hi : Inv ρ S w) (hx : opd x = some x') (hy : opd y = some y')
    (h : binV op (ev e x') (ev e y') = some v) : Yields P o a ρ S w v := by
  obtain ⟨u, hr, hv, hk⟩ := run_binV (P := P) (t := t) (opd_rel he hx) (opd_rel he hy) h
  refine Yields.same hi (u := u) ?_ hv
  have hg : (eqGuard op t x y (a.eval x) (a.eval y)).run P w = .ok () w := by
    unfold eqGuard
    rcases hk with ⟨k, n, hk⟩ | ⟨s, hk⟩ <;> rw [hk] <;> cases op <;> rfl
  simp [execOp, ho, hg, hr]
theorem sound_mv {x : Operand} {x' : Opd} (ho : o.op = .move x ∨ o.op = .assign x) (he : Slots ρ S w e a) (hi : Inv ρ S w) (hx : opd x = some x') : Yields P o a ρ S w (ev e x') :=
  Yields.same hi (by rcases ho with ho | ho <;> simp [execOp, ho]) (opd_rel he hx)
theorem sound_pick {c x y : Operand} {c' x' y' : Opd} (ho : o.op = .pick c x y) (he : Slots ρ S w e a) (hi : Inv ρ S w) (hc : opd c = some c') (hx : opd x = some x') (hy : opd y = some y')
    (h : opV e S (.pick c' x' y') = some v) : Yields P o a ρ S w v := by
  simp only [opV] at h
  split at h
  · rename_i t ht
    simp only [Option.some.injEq] at h
    subst h
    have hb := opd_rel he hc
    rw [ht] at hb
    have hb := hb.bool_inv
    refine Yields.same hi (u := if t then a.eval x else a.eval y) (by simp [execOp, ho, hb, asBool]) ?_
    cases t
    · exact opd_rel he hy
    · exact opd_rel he hx
  · cases h
theorem sound_eqb {op : BinOp} {t t' : TypeId} {x y : Operand} {x' y' : Opd} {neg : Bool} (hn : op = if neg then .neq else .eql) (ho : o.op = .binOp op t x y t') (ht : P.underlying t = some .bool) (he : Slots ρ S w e a) (hi : Inv ρ S w)
    (hx : opd x = some x') (hy : opd y = some y') (h : opV e S (.eqb neg x' y') = some v) : Yields P o a ρ S w v := by
  simp only [opV] at h
  split at h
  · rename_i c d hc hd
    simp only [Option.some.injEq] at h
    subst h
    have h1 := opd_rel he hx
    have h2 := opd_rel he hy
    rw [hc] at h1
    rw [hd] at h2
    have h1 := h1.bool_inv
    have h2 := h2.bool_inv
    refine Yields.same hi (u := .bool (if neg then !(c == d) else c == d)) ?_ .bool
    cases neg
    · simp only [Bool.false_eq_true, if_false] at hn ⊢
      subst hn
      simp [execOp, ho, h1, h2, eqGuard, run_eql_bool w t c d ht]
    · simp only [if_true] at hn ⊢
      subst hn
      simp [execOp, ho, h1, h2, eqGuard, run_neq_bool w t c d ht]
  · cases h
theorem sound_not {t : TypeId} {x : Operand} {x' : Opd} (ho : o.op = .unOp .not t x) (he : Slots ρ S w e a) (hi : Inv ρ S w) (hx : opd x = some x') (h : opV e S (.not x') = some v) : Yields P o a ρ S w v := by
  simp only [opV] at h
  split at h
  · rename_i c hc
    simp only [Option.some.injEq] at h
    subst h
    have h1 := opd_rel he hx
    rw [hc] at h1
    have h1 := h1.bool_inv
    exact Yields.same hi (u := .bool (!c)) (by simp [execOp, ho, h1, Op.unary]) .bool
  · cases h
theorem sound_neg {t : TypeId} {x : Operand} {x' : Opd} (ho : o.op = .unOp .neg t x) (he : Slots ρ S w e a) (hi : Inv ρ S w) (hx : opd x = some x') (h : opV e S (.neg x') = some v) : Yields P o a ρ S w v := by
  simp only [opV] at h
  split at h
  · rename_i k n hc
    simp only [Option.some.injEq] at h
    subst h
    have h1 := opd_rel he hx
    rw [hc] at h1
    have h1 := h1.int_inv
    exact Yields.same hi (u := .int k (k.wrap (0 - n))) (by simp [execOp, ho, h1, Op.unary, Op.intArith]) .int
  · cases h
theorem obj_some {id ver sz : Nat} {t : TypeId} {rows : List (List V)} (h : S.obj? id ver = some (t, sz, rows)) : S[id]? = some ⟨ver, some (.arr t sz rows)⟩ := by
  unfold Store.obj? at h
  split at h
  · rename_i v t' sz' rows' hs
    split at h
    · rename_i hv
      simp only [Option.some.injEq, Prod.mk.injEq] at h
      obtain ⟨rfl, rfl, rfl⟩ := h
      rw [hs, hv]
    · cases h
  · cases h
theorem VR.msl_inv {id ver off len sz : Nat} {t : TypeId} {rows : List (List V)} {u : Value} {b : Bool} (h : VR ρ S w b (.msl id ver off len) u) (ho : S.obj? id ver = some (t, sz, rows)) :
    off + len ≤ rows.length ∧ ((ρ id = none ∧ u = .slice none 0 0 ∧ len = 0 ∧ off = 0) ∨ (∃ g tot cap, ρ id = some (g, tot) ∧ u = .slice (some ⟨g, off * sz, none⟩) len cap ∧ off + len ≤ tot ∧ len ≤ cap ∧ off + cap ≤ tot) ∨ (0 < off ∧ len = 0 ∧ ∃ p, u = .slice (some p) 0 0)) := by
  cases h with
  | msl h1 h2 h3 h4 => exact h3 _ _ _ (obj_some ho)
theorem VR.ptr_inv {id ver row off sz : Nat} {t : TypeId} {rows : List (List V)} {u : Value} {b : Bool} (h : VR ρ S w b (.ptr id ver row off) u) (ho : S.obj? id ver = some (t, sz, rows)) :
    ∃ g tot, ρ id = some (g, tot) ∧ u = .pointer (some ⟨g, row * sz + off, none⟩) := by
  cases h with
  | ptr h1 h2 h3 h4 => exact h3 _ _ _ (obj_some ho)
theorem sound_lenS {x : Operand} {t : TypeId} {x' : Opd} (ho : o.op = .call { callee := .builtin .len, args := #[x], argTypes := #[t] }) (ht : P.underlying t = some .string) (he : Slots ρ S w e a) (hi : Inv ρ S w)
    (hx : opd x = some x') (h : opV e S (.lenS x') = some v) : Yields P o a ρ S w v := by
  have h1 := opd_rel he hx
  simp only [opV] at h
  split at h
  · rename_i l hl
    simp only [Option.some.injEq] at h
    subst h
    rw [hl] at h1
    obtain ⟨s, h2, h3, _⟩ := h1.str_inv
    have h4 : s.size = l.length := by rw [← h3, Array.length_toList]; rfl
    exact Yields.same hi (u := .int .i64 l.length) (by simp [execOp, ho, resolve, invoke, builtin, Builtin.len_, h2, run_underlying ht, goInt, h4]) .int
  · cases h
theorem sound_lenA {x : Operand} {t q : TypeId} {x' : Opd} (ho : o.op = .call { callee := .builtin .len, args := #[x], argTypes := #[t] }) (ht : P.underlying t = some (.slice q)) (he : Slots ρ S w e a) (hi : Inv ρ S w)
    (hx : opd x = some x') (h : opV e S (.lenA x') = some v) : Yields P o a ρ S w v := by
  have h1 := opd_rel he hx
  have run : ∀ (n : Nat) b c, a.eval x = .slice b n c → (execOp a.eval o).run P w = .ok (.value (.int .i64 n)) w := by
    intro n b c h2
    simp [execOp, ho, resolve, invoke, builtin, Builtin.len_, h2, run_underlying ht, goInt]
  simp only [opV] at h
  split at h
  · rename_i hl
    simp only [Option.some.injEq] at h
    subst h
    rw [hl] at h1
    have h2 : a.eval x = .slice none 0 0 := by generalize a.eval x = u at h1; cases h1; rfl
    exact Yields.same hi (u := .int .i64 (0 : Nat)) (run 0 _ _ h2) .int
  · rename_i sz rows hl
    simp only [Option.some.injEq] at h
    subst h
    rw [hl] at h1
    have h2 : ∃ b c, a.eval x = .slice b rows.length c := by
      generalize a.eval x = u at h1
      cases h1 with
      | slNil => exact ⟨_, _, rfl⟩
      | sl c hu hlen => exact ⟨_, _, by rw [hlen]⟩
    obtain ⟨b, c, h2⟩ := h2
    exact Yields.same hi (run _ _ _ h2) .int
  · rename_i id ver off len hl
    simp only [Option.some.injEq] at h
    subst h
    rw [hl] at h1
    have h2 : ∃ p c, a.eval x = .slice p len c := by
      generalize a.eval x = u at h1
      cases h1 with
      | msl _ _ _ h4 => exact h4
    obtain ⟨p, c, h2⟩ := h2
    exact Yields.same hi (run _ _ _ h2) .int
  · cases h
theorem sound_idxS {x i : Operand} {t : TypeId} {x' i' : Opd} (ho : o.op = .index t x i) (ht : P.underlying t = some .string) (he : Slots ρ S w e a) (hi : Inv ρ S w)
    (hx : opd x = some x') (hii : opd i = some i') (h : opV e S (.idxS x' i') = some v) : Yields P o a ρ S w v := by
  have h1 := opd_rel he hx
  have h2 := opd_rel he hii
  simp only [opV] at h
  split at h
  · rename_i l k n hl hn
    rw [hl] at h1
    rw [hn] at h2
    obtain ⟨s, h3, h4, _⟩ := h1.str_inv
    have h2 := h2.int_inv
    split at h
    · rename_i h0
      simp only [Option.map_eq_some_iff] at h
      obtain ⟨b, hb, rfl⟩ := h
      have hs : s[n.toNat]? = some b := by
        rw [← h4] at hb
        have hlt : n.toNat < s.size := by
          have := (List.getElem?_eq_some_iff.1 hb).1
          rw [Array.length_toList] at this
          exact this
        rw [Go.ByteArray.getElem?_lt' s _ hlt]
        have : s.data.toList[n.toNat]? = some (s[n.toNat]) := by
          rw [List.getElem?_eq_getElem (by rw [Array.length_toList]; exact hlt)]
          rfl
        rw [this] at hb
        exact hb
      refine Yields.same hi (u := .int .u8 b.toNat) ?_ .int
      simp [execOp, ho, Instr.index, h2, h3, asIntOf, run_underlying ht, h0, hs]
    · cases h
  · cases h
theorem sizeT_some {t : TypeId} {n : Nat} (h : sizeT P t = some n) : ∃ i, P.info? t = some i ∧ i.size = n := by
  unfold sizeT at h
  simpa [Option.map_eq_some_iff] using h
theorem sound_idxA {x i : Operand} {t q : TypeId} {n : Nat} {x' i' : Opd} (ho : o.op = .indexAddr t x i) (ht : P.underlying t = some (.slice q)) (hz : sizeT P q = some n) (he : Slots ρ S w e a) (hi : Inv ρ S w)
    (hx : opd x = some x') (hii : opd i = some i') (h : opV e S (.idxA n x' i') = some v) : Yields P o a ρ S w v := by
  have h1 := opd_rel he hx
  have h2 := opd_rel he hii
  obtain ⟨ti, hti, hsz⟩ := sizeT_some hz
  have run : ∀ k m g off len cap, a.eval x = .slice (some ⟨g, off, none⟩) len cap → a.eval i = .int k m → 0 ≤ m → m < (len : Int) → (execOp a.eval o).run P w = .ok (.value (.pointer (some ⟨g, off + m.toNat * n, none⟩))) w := by
    intro k m g off len cap hs hm h0 hlt
    simp [execOp, ho, Instr.indexAt, hs, hm, asIntOf, run_underlying ht, h0, hlt, sizeOf, typeInfo, hti, hsz, Addr.add_lit]
  simp only [opV] at h
  split at h
  · rename_i sz' rows k m hl hm
    rw [hl] at h1
    rw [hm] at h2
    have h2 := h2.int_inv
    split at h
    · rename_i hc
      obtain ⟨rfl, h0⟩ := hc
      simp only [Option.map_eq_some_iff] at h
      obtain ⟨r, hr, rfl⟩ := h
      generalize hu : a.eval x = u at h1
      cases h1 with
      | slNil => simp at hr
      | @sl _ _ _ g off len cap c hun hlen hcap hmax hszz hc hv h1c =>
        have hlt : m.toNat < rows.length := (List.getElem?_eq_some_iff.1 hr).1
        have hrun := run k m g off len cap hu h2 h0 (by omega)
        refine Yields.same hi hrun (.cptr (fun j => c m.toNat j) hun (fun j y hj => ?_) (fun j y hj => hv _ _ hr j y hj) (fun j y hj => h1c _ _ hr j y hj))
        have := hc _ _ hr j y hj
        rw [← this, Nat.add_assoc]
    · cases h
  · rename_i id ver off len k m hl hm
    rw [hl] at h1
    rw [hm] at h2
    have h2 := h2.int_inv
    split at h
    · rename_i hc
      obtain ⟨h0, hlt, hs⟩ := hc
      simp only [Option.some.injEq] at h
      subst h
      simp only [Option.map_eq_some_iff] at hs
      obtain ⟨⟨t', sz, rows⟩, hs, hsz'⟩ := hs
      simp only at hsz'
      subst hsz'
      obtain ⟨hb, hk⟩ := h1.msl_inv hs
      rcases hk with ⟨_, _, hz0, _⟩ | ⟨g, tot, _, hg, hu, _⟩ | ⟨_, rfl, _⟩
      · omega
      rotate_left
      · omega
      · refine Yields.same hi (run k m g _ len _ hu h2 h0 hlt) ?_
        have hlt' : id < S.length := by cases h1; assumption
        have hver' : ∀ (o : Obj), S[id]? = some o → ver ≤ o.ver := by cases h1; assumption
        refine .ptr hlt' hver' (fun e' sz2 rows2 hs2 => ⟨g, tot, hg, ?_⟩) rfl
        rw [obj_some hs] at hs2
        simp only [Option.some.injEq, Obj.mk.injEq, Cont.arr.injEq, true_and] at hs2
        obtain ⟨_, rfl, _⟩ := hs2
        rw [Nat.add_mul]
        rfl
    · cases h
  · cases h
theorem sound_idxR {x i : Operand} {t q : TypeId} {len n : Nat} {x' i' : Opd} (ho : o.op = .indexAddr t x i) (ht : P.underlying t = some (.array len q)) (hz : sizeT P q = some n) (he : Slots ρ S w e a) (hi : Inv ρ S w)
    (hx : opd x = some x') (hii : opd i = some i') (h : opV e S (.idxR len n x' i') = some v) : Yields P o a ρ S w v := by
  have h1 := opd_rel he hx
  have h2 := opd_rel he hii
  obtain ⟨ti, hti, hsz⟩ := sizeT_some hz
  have run : ∀ k m g off, a.eval x = .pointer (some ⟨g, off, none⟩) → a.eval i = .int k m → 0 ≤ m → m < (len : Int) → (execOp a.eval o).run P w = .ok (.value (.pointer (some ⟨g, off + m.toNat * n, none⟩))) w := by
    intro k m g off hs hm h0 hlt
    simp [execOp, ho, Instr.indexAt, hs, hm, asIntOf, run_underlying ht, h0, hlt, sizeOf, typeInfo, hti, hsz, Addr.add_lit, Instr.sureAddr]
  simp only [opV] at h
  split at h
  · rename_i cells k m hl hm
    rw [hl] at h1
    rw [hm] at h2
    have h2 := h2.int_inv
    split at h
    · rename_i hc
      simp only [Option.some.injEq] at h
      subst h
      generalize hu : a.eval x = u at h1
      cases h1 with
      | @cptr _ _ g off c hun hc2 hv h1c =>
        refine Yields.same hi (run k m g off hu h2 hc.1 hc.2) (.cptr (fun j => c (m.toNat * n + j)) hun (fun j y hj => ?_) (fun j y hj => hv _ _ (by simpa using hj)) (fun j y hj => h1c _ _ (by simpa using hj)))
        have := hc2 (m.toNat * n + j) y (by simpa using hj)
        rw [← this, Nat.add_assoc]
    · cases h
  · rename_i id ver row off k m hl hm
    rw [hl] at h1
    rw [hm] at h2
    have h2 := h2.int_inv
    split at h
    · rename_i hc
      obtain ⟨h0, hlt, hs⟩ := hc
      simp only [Option.some.injEq] at h
      subst h
      obtain ⟨⟨t', sz, rows⟩, hs⟩ := Option.isSome_iff_exists.1 hs
      obtain ⟨g, tot, hg, hu⟩ := h1.ptr_inv hs
      refine Yields.same hi (run k m g _ hu h2 h0 hlt) ?_
      have hlt' : id < S.length := by cases h1; assumption
      have hver' : ∀ (o : Obj), S[id]? = some o → ver ≤ o.ver := by cases h1; assumption
      refine .ptr hlt' hver' (fun e' sz2 rows2 hs2 => ⟨g, tot, hg, ?_⟩) rfl
      rw [obj_some hs] at hs2
      simp only [Option.some.injEq, Obj.mk.injEq, Cont.arr.injEq, true_and] at hs2
      obtain ⟨_, rfl, _⟩ := hs2
      rw [Nat.add_assoc]
    · cases h
  · cases h
theorem sound_faddr {x : Operand} {t : TypeId} {i m : Nat} {fields : Array Field} {f : Field} {x' : Opd} (ho : o.op = .fieldAddr t x i) (ht : P.underlying t = some (.struct fields)) (hf : fields[i]? = some f) (hz : sizeT P f.type = some (m + 1))
    (he : Slots ρ S w e a) (hi : Inv ρ S w) (hx : opd x = some x') (h : opV e S (.faddr f.offset x') = some v) : Yields P o a ρ S w v := by
  have h1 := opd_rel he hx
  obtain ⟨ti, hti, hsz⟩ := sizeT_some hz
  have run : ∀ g off, a.eval x = .pointer (some ⟨g, off, none⟩) → (execOp a.eval o).run P w = .ok (.value (.pointer (some ⟨g, off + f.offset, none⟩))) w := by
    intro g off hp
    simp [execOp, ho, Instr.fieldAt, hp, run_underlying ht, hf, Instr.sureAddr, fieldPlace, sizeOf, typeInfo, hti, hsz, Addr.add_lit]
  simp only [opV] at h
  split at h
  · rename_i cells hl
    rw [hl] at h1
    simp only [Option.some.injEq] at h
    subst h
    generalize hu : a.eval x = u at h1
    cases h1 with
    | @cptr _ _ g off c hun hc hv h1c =>
      refine Yields.same hi (run g off hu) (.cptr (fun j => c (f.offset + j)) hun (fun j y hj => ?_) (fun j y hj => hv _ _ (by simpa using hj)) (fun j y hj => h1c _ _ (by simpa using hj)))
      have := hc (f.offset + j) y (by simpa using hj)
      rw [← this, Nat.add_assoc]
  · rename_i id ver row off hl
    rw [hl] at h1
    split at h
    · rename_i hs
      simp only [Option.some.injEq] at h
      subst h
      obtain ⟨⟨t', sz, rows⟩, hs⟩ := Option.isSome_iff_exists.1 hs
      obtain ⟨g, tot, hg, hu⟩ := h1.ptr_inv hs
      refine Yields.same hi (run g _ hu) ?_
      have hlt' : id < S.length := by cases h1; assumption
      have hver' : ∀ (o : Obj), S[id]? = some o → ver ≤ o.ver := by cases h1; assumption
      refine .ptr hlt' hver' (fun e' sz2 rows2 hs2 => ⟨g, tot, hg, ?_⟩) rfl
      rw [obj_some hs] at hs2
      simp only [Option.some.injEq, Obj.mk.injEq, Cont.arr.injEq, true_and] at hs2
      obtain ⟨_, rfl, _⟩ := hs2
      rw [Nat.add_assoc]
    · cases h
  · cases h
theorem owned_cell {id ver row sz off : Nat} {t : TypeId} {rows : List (List V)} {r : List V} {g tot : Nat} (hi : Inv ρ S w) (hs : S.obj? id ver = some (t, sz, rows)) (hg : ρ id = some (g, tot)) (hr : rows[row]? = some r)
    {y : V} (hy : r[off]? = some y) : ∃ u, w.cell? ⟨g, row * sz + off, none⟩ = some u ∧ VR ρ S w false y u ∧ u.oneCell' = true := by
  obtain ⟨_, h2⟩ := hi.rows id ver t sz rows (obj_some hs)
  rcases h2 with ⟨h2, _⟩ | ⟨g', tot', cur, h3, _, _, h4, _, h5⟩
  · rw [hg] at h2; cases h2
  · rw [hg] at h3
    cases h3
    obtain ⟨u, hu, hv⟩ := h5 row r hr off y hy
    exact ⟨u, by simp [World.cell?, h4, hu], hv⟩
theorem isAggT_false {t : TypeId} (h : isAggT P t = some false) (w : World) : (isAgg t).run P w = .ok false w := by
  unfold isAggT at h
  split at h <;> simp only [reduceCtorEq, Option.some.injEq, Bool.true_eq_false] at h
  rename_i d hne1 hne2 hd
  simp only [isAgg, Sem.run_bind, run_underlying hd, Result.andThen_ok]
  rfl
theorem isAggT_true {t : TypeId} (h : isAggT P t = some true) (w : World) : (isAgg t).run P w = .ok true w := by
  unfold isAggT at h
  split at h <;> simp only [reduceCtorEq, Option.some.injEq, Bool.false_eq_true] at h
  · rename_i fs hd; simp [isAgg, run_underlying hd]
  · rename_i n q hd; simp [isAgg, run_underlying hd]
theorem sound_idxV {x i : Operand} {t q : TypeId} {len : Nat} {x' i' : Opd} (ho : o.op = .index t x i) (ht : P.underlying t = some (.array len q)) (hg : isAggT P q = some false) (hz : sizeT P q = some 1) (he : Slots ρ S w e a) (hi : Inv ρ S w)
    (hx : opd x = some x') (hii : opd i = some i') (h : opV e S (.idxV len x' i') = some v) : Yields P o a ρ S w v := by
  have h1 := opd_rel he hx
  have h2 := opd_rel he hii
  obtain ⟨ti, hti, hsz⟩ := sizeT_some hz
  simp only [opV] at h
  split at h
  · rename_i cells k m hl hm
    rw [hl] at h1
    rw [hm] at h2
    have h2 := h2.int_inv
    split at h
    · rename_i hc
      generalize hu : a.eval x = u at h1
      cases h1 with
      | @agg _ _ us c hl' hc' hv' =>
        have hun := hc' m.toNat v h
        refine Yields.same hi (u := c m.toNat) ?_ (hv' _ _ h)
        have hp : (part q us (m.toNat * 1)).run P w = .ok (c m.toNat) w := by
          rw [Nat.mul_one]
          simp [part, isAggT_false hg, hun]
        simp [execOp, ho, Instr.index, h2, hu, asIntOf, run_underlying ht, hc.1, hc.2, sizeOf, typeInfo, hti, hsz] at hp ⊢
        simp [hp]
    · cases h
  · cases h
theorem sound_ld1 {x : Operand} {t : TypeId} {x' : Opd} (ho : o.op = .load t x) (ht : isAggT P t = some false) (he : Slots ρ S w e a) (hi : Inv ρ S w) (hx : opd x = some x') (h : opV e S (.ld1 x') = some v) : Yields P o a ρ S w v := by
  have h1 := opd_rel he hx
  have run : ∀ g off u, a.eval x = .pointer (some ⟨g, off, none⟩) → w.cell? ⟨g, off, none⟩ = some u → (execOp a.eval o).run P w = .ok (.value u) w := by
    intro g off u hp hc
    simp [execOp, ho, Instr.loadAt, hp, Instr.sureAddr, loadVar, isAggT_false ht, hc]
  simp only [opV] at h
  split at h
  · rename_i cells hl
    rw [hl] at h1
    generalize hu : a.eval x = u at h1
    cases h1 with
    | @cptr _ _ g off c hun hc hv =>
      have h0 : cells[0]? = some v := by rw [← h]; cases cells <;> rfl
      exact Yields.same hi (run g off (c 0) hu (hc 0 v h0)) ((hv 0 v h0).weaken false)
  · rename_i id ver row off hl
    rw [hl] at h1
    simp only [Option.bind_eq_some_iff] at h
    obtain ⟨⟨t', sz, rows⟩, hs, r, hr, hy⟩ := h
    obtain ⟨g, tot, hg, hu⟩ := h1.ptr_inv hs
    obtain ⟨u, hc, hv, _⟩ := owned_cell hi hs hg hr hy
    exact Yields.same hi (run g _ u hu hc) hv
  · cases h
theorem sound_ldn {x : Operand} {t : TypeId} {n : Nat} {x' : Opd} (ho : o.op = .load t x) (ht : isAggT P t = some true) (hz : sizeT P t = some n) (he : Slots ρ S w e a) (hi : Inv ρ S w) (hx : opd x = some x') (h : opV e S (.ldn n x') = some v) : Yields P o a ρ S w v := by
  have h1 := opd_rel he hx
  obtain ⟨ti, hti, hsz⟩ := sizeT_some hz
  have run : ∀ g off (vs : List V), vs.length = n → a.eval x = .pointer (some ⟨g, off, none⟩) → (∀ (j : Nat) (y : V), vs[j]? = some y → ∃ u, w.cell? ⟨g, off + j, none⟩ = some u ∧ VR ρ S w false y u) → Yields P o a ρ S w (.agg vs) := by
    intro g off vs hvs hp hc
    have hex : ∃ c : Nat → Value, ∀ (j : Nat) (y : V), vs[j]? = some y → w.cell? ⟨g, off + j, none⟩ = some (c j) ∧ VR ρ S w false y (c j) := by
      refine ⟨fun j => (w.cell? ⟨g, off + j, none⟩).getD Go.undef, fun j y hy => ?_⟩
      obtain ⟨u, h2, h3⟩ := hc j y hy
      simp [h2, h3]
    obtain ⟨c, hc⟩ := hex
    have hl := run_loadCells (P := P) w ⟨g, off, none⟩ n c (fun j hj => by
      rw [Addr.add_lit]
      exact (hc j vs[j] (List.getElem?_eq_getElem (by omega))).1)
    refine Yields.same hi (u := .agg ((List.range n).map c).toArray) ?_ (.agg' (by simp [hvs]) fun j y hj => ?_)
    · simp [execOp, ho, Instr.loadAt, hp, Instr.sureAddr, loadVar, isAggT_true ht, sizeOf, typeInfo, hti, hsz, hl]
    · have hlt : j < n := by rw [← hvs]; exact (List.getElem?_eq_some_iff.1 hj).1
      exact ⟨c j, by simp [hlt], (hc j y hj).2⟩
  simp only [opV] at h
  split at h
  · rename_i cells hl
    rw [hl] at h1
    split at h
    · rename_i hle
      simp only [Option.some.injEq] at h
      subst h
      generalize hu : a.eval x = u at h1
      cases h1 with
      | @cptr _ _ g off c hun hc hv =>
        refine run g off _ (by simp [hle]) hu fun j y hj => ?_
        have hj' : cells[j]? = some y := by
          rw [List.getElem?_take] at hj
          split at hj
          · exact hj
          · cases hj
        exact ⟨c j, hc j y hj', (hv j y hj').weaken false⟩
    · cases h
  · rename_i id ver row off hl
    rw [hl] at h1
    simp only [Option.bind_eq_some_iff] at h
    obtain ⟨⟨t', sz, rows⟩, hs, r, hr, hy⟩ := h
    split at hy
    · rename_i hle
      simp only [Option.some.injEq] at hy
      subst hy
      obtain ⟨g, tot, hg, hu⟩ := h1.ptr_inv hs
      refine run g _ _ (by simp; omega) hu fun j y hj => ?_
      have hj' : r[off + j]? = some y := by
        rw [List.getElem?_take] at hj
        split at hj
        · simpa using hj
        · cases hj
      obtain ⟨u, hc, hv, _⟩ := owned_cell hi hs hg hr hj'
      exact ⟨u, by rw [Nat.add_assoc]; exact hc, hv⟩
    · cases hy
  · cases h
theorem part1_run {t : TypeId} {cs : Array Value} {off : Nat} {u : Value} (ht : isAggT P t = some false) (h : cs[off]? = some u) (w : World) : (part t cs off).run P w = .ok u w := by
  simp [part, isAggT_false ht, h]
theorem partn_run {t : TypeId} {cs : Array Value} {off n : Nat} (ht : isAggT P t = some true) (hz : sizeT P t = some n) (w : World) : (part t cs off).run P w = .ok (.agg (cs.extract off (off + n))) w := by
  obtain ⟨ti, hti, hsz⟩ := sizeT_some hz
  simp [part, isAggT_true ht, sizeOf, typeInfo, hti, hsz]
theorem VR.agg_inv {vs : List V} {u : Value} {b : Bool} (h : VR ρ S w b (.agg vs) u) : ∃ us : Array Value, u = .agg us ∧ us.size = vs.length ∧ ∀ (j : Nat) (y : V), vs[j]? = some y → ∃ x, us[j]? = some x ∧ VR ρ S w b y x := by
  cases h with
  | agg c hl hc hv => exact ⟨_, rfl, hl, fun j y hj => ⟨c j, hc j y hj, hv j y hj⟩⟩
theorem VR.tup_inv {vs : List V} {u : Value} {b : Bool} (h : VR ρ S w b (.tup vs) u) : ∃ us : Array Value, u = .tuple us ∧ us.size = vs.length ∧ ∀ (j : Nat) (y : V), vs[j]? = some y → ∃ x, us[j]? = some x ∧ VR ρ S w b y x := by
  cases h with
  | tup c hl hc hv => exact ⟨_, rfl, hl, fun j y hj => ⟨c j, hc j y hj, hv j y hj⟩⟩
theorem sound_fld1 {x : Operand} {t : TypeId} {i : Nat} {fields : Array Field} {f : Field} {x' : Opd} (ho : o.op = .field t x i) (ht : P.underlying t = some (.struct fields)) (hf : fields[i]? = some f) (hg : isAggT P f.type = some false)
    (he : Slots ρ S w e a) (hi : Inv ρ S w) (hx : opd x = some x') (h : opV e S (.fld1 f.offset x') = some v) : Yields P o a ρ S w v := by
  have h1 := opd_rel he hx
  simp only [opV] at h
  split at h
  · rename_i cells hl
    rw [hl] at h1
    obtain ⟨us, hu, _, hus⟩ := h1.agg_inv
    obtain ⟨y, hy, hv⟩ := hus _ _ h
    exact Yields.same hi (by simp [execOp, ho, hu, Instr.field, run_underlying ht, hf, asAgg, part1_run hg hy]) hv
  · cases h
theorem sound_fldn {x : Operand} {t : TypeId} {i n : Nat} {fields : Array Field} {f : Field} {x' : Opd} (ho : o.op = .field t x i) (ht : P.underlying t = some (.struct fields)) (hf : fields[i]? = some f) (hg : isAggT P f.type = some true) (hz : sizeT P f.type = some n)
    (he : Slots ρ S w e a) (hi : Inv ρ S w) (hx : opd x = some x') (h : opV e S (.fldn f.offset n x') = some v) : Yields P o a ρ S w v := by
  have h1 := opd_rel he hx
  simp only [opV] at h
  split at h
  · rename_i cells hl
    split at h
    · rename_i hle
      simp only [Option.some.injEq] at h
      subst h
      rw [hl] at h1
      obtain ⟨us, hu, hsz, hus⟩ := h1.agg_inv
      refine Yields.same hi (by simp [execOp, ho, hu, Instr.field, run_underlying ht, hf, asAgg, partn_run hg hz]; rfl) (.agg' (by simp; omega) fun j y hj => ?_)
      have hj' : cells[f.offset + j]? = some y ∧ j < n := by
        rw [List.getElem?_take] at hj
        split at hj
        · rename_i hlt; exact ⟨by simpa using hj, hlt⟩
        · cases hj
      obtain ⟨u, h2, h3⟩ := hus _ _ hj'.1
      refine ⟨u, ?_, h3⟩
      rw [Array.getElem?_extract, if_pos (by omega)]
      exact h2
    · cases h
  · cases h
theorem sound_conv {x : Operand} {src dst : TypeId} {j k : IntKind} {x' : Opd} (ho : o.op = .convert src dst x) (hs : P.underlying src = some (.int j)) (hd : P.underlying dst = some (.int k)) (he : Slots ρ S w e a) (hi : Inv ρ S w) (hx : opd x = some x')
    (h : opV e S (.conv k x') = some v) : Yields P o a ρ S w v := by
  have h1 := opd_rel he hx
  simp only [opV] at h
  split at h
  · rename_i k' n hl
    simp only [Option.some.injEq] at h
    subst h
    rw [hl] at h1
    have h1 := h1.int_inv
    exact Yields.same hi (u := .int k (k.wrap n)) (by simp [execOp, ho, h1, convert, run_underlying hs, run_underlying hd, Conv.intToInt]) .int
  · cases h
theorem sound_ext {x : Operand} {i : Nat} {x' : Opd} (ho : o.op = .extract x i) (he : Slots ρ S w e a) (hi : Inv ρ S w) (hx : opd x = some x') (h : opV e S (.ext i x') = some v) : Yields P o a ρ S w v := by
  have h1 := opd_rel he hx
  simp only [opV] at h
  split at h
  · rename_i vs hl
    rw [hl] at h1
    obtain ⟨us, hu, _, hus⟩ := h1.tup_inv
    obtain ⟨y, hy, hv⟩ := hus _ _ h
    exact Yields.same hi (by simp [execOp, ho, hu, Instr.extract, hy]) hv
  · cases h
theorem sound_minmax {op : Builtin} {x y : Operand} {ts : Array TypeId} {mn : Bool} {x' y' : Opd} (hop : op = if mn then .min else .max) (ho : o.op = .call { callee := .builtin op, args := #[x, y], argTypes := ts }) (he : Slots ρ S w e a) (hi : Inv ρ S w)
    (hx : opd x = some x') (hy : opd y = some y') (h : opV e S (.minmax mn x' y') = some v) : Yields P o a ρ S w v := by
  have h1 := opd_rel he hx
  have h2 := opd_rel he hy
  simp only [opV] at h
  split at h
  · rename_i k i k' j hl hm
    simp only [Option.some.injEq] at h
    subst h
    rw [hl] at h1
    rw [hm] at h2
    have h1 := h1.int_inv
    have h2 := h2.int_inv
    refine Yields.same hi (u := .int k (if mn then (if j < i then j else i) else (if j > i then j else i))) ?_ .int
    cases mn
    · simp only [Bool.false_eq_true, if_false] at hop ⊢
      subst hop
      simp [execOp, ho, resolve, invoke, builtin, h1, h2, run_max_int2]
    · simp only [if_true] at hop ⊢
      subst hop
      simp [execOp, ho, resolve, invoke, builtin, h1, h2, run_min_int2]
  · cases h
theorem sound_mkfn {f : FuncId} {first cap : Array Operand} {l m : List Opd} (ho : o.op = .makeFunc (.func f) first cap) (he : Slots ρ S w e a) (hi : Inv ρ S w) (h1 : opds first.toList = some l) (h2 : opds cap.toList = some m) :
    Yields P o a ρ S w (.func f (evs e l) (evs e m)) := by
  have key : ∀ (xs : List Operand) (ys : List Opd), opds xs = some ys → xs.length = ys.length ∧ ∀ (j : Nat) (v : V), (evs e ys)[j]? = some v → ∃ u, (xs.map a.eval)[j]? = some u ∧ VR ρ S w false v u := by
    intro xs
    induction xs with
    | nil => intro ys h; simp only [opds, Option.some.injEq] at h; subst h; simp [evs]
    | cons x xs ih =>
      intro ys h
      simp only [opds] at h
      split at h
      · rename_i y ys' hy hys
        simp only [Option.some.injEq] at h
        subst h
        obtain ⟨a1, a2⟩ := ih _ hys
        refine ⟨by simp [a1], fun j v hv => ?_⟩
        cases j with
        | zero => simp [evs] at hv; subst hv; exact ⟨_, by simp, opd_rel he hy⟩
        | succ j => simp only [evs, List.map_cons, List.getElem?_cons_succ] at hv ⊢; exact a2 j v hv
      · cases h
  obtain ⟨a1, a2⟩ := key _ _ h1
  obtain ⟨b1, b2⟩ := key _ _ h2
  refine Yields.same hi (u := .func (.func f) (first.map a.eval) (cap.map a.eval)) (by simp [execOp, ho, Instr.makeFunc]) ?_
  refine .func (fun j => (first.map a.eval)[j]?.getD Go.undef) (fun j => (cap.map a.eval)[j]?.getD Go.undef) (by simp [evs] at a1 ⊢; omega) (by simp [evs] at b1 ⊢; omega) ?_ ?_ ?_ ?_
  · intro j v hv; obtain ⟨u, hu, _⟩ := a2 j v hv; have hu : (first.map a.eval)[j]? = some u := by simpa using hu
    simp only [hu, Option.getD_some]
  · intro j v hv; obtain ⟨u, hu, hr⟩ := a2 j v hv; have hu : (first.map a.eval)[j]? = some u := by simpa using hu
    simp only [hu, Option.getD_some]; exact hr
  · intro j v hv; obtain ⟨u, hu, _⟩ := b2 j v hv; have hu : (cap.map a.eval)[j]? = some u := by simpa using hu
    simp only [hu, Option.getD_some]
  · intro j v hv; obtain ⟨u, hu, hr⟩ := b2 j v hv; have hu : (cap.map a.eval)[j]? = some u := by simpa using hu
    simp only [hu, Option.getD_some]; exact hr
theorem sound_nilChk {x : Operand} {x' : Opd} (ho : o.op = .nilCheck x) (he : Slots ρ S w e a) (hi : Inv ρ S w) (hx : opd x = some x') (h : opV e S (.nilChk x') = some v) : Yields P o a ρ S w v := by
  have h1 := opd_rel he hx
  have run : ∀ u, a.eval x = u → (u = .pointer none → False) → (u = .nilIface → False) → (u = .nilFunc → False) → (∀ n f c, u = .func (.method n) f c → False) → (execOp a.eval o).run P w = .ok (.value u) w := by
    intro u hu h1 h2 h3 h4
    simp only [execOp, ho, hu]
    rfl
  simp only [opV] at h
  split at h
  · rename_i id ver row off hl
    split at h
    · rename_i hs
      simp only [Option.some.injEq] at h
      subst h
      rw [hl] at h1
      obtain ⟨⟨t', sz, rows⟩, hs⟩ := Option.isSome_iff_exists.1 hs
      obtain ⟨g, tot, hg, hu⟩ := h1.ptr_inv hs
      exact Yields.same hi (run _ rfl (by rw [hu]; simp) (by rw [hu]; simp) (by rw [hu]; simp) (by rw [hu]; simp)) h1
    · cases h
  · rename_i l hl
    simp only [Option.some.injEq] at h
    subst h
    rw [hl] at h1
    generalize hu : a.eval x = u at h1
    have h2 := h1
    cases h2 with
    | cptr c hun hc hv => exact Yields.same hi (run _ hu (by simp) (by simp) (by simp) (by simp)) h1
  · rename_i f p q hl
    simp only [Option.some.injEq] at h
    subst h
    rw [hl] at h1
    generalize hu : a.eval x = u at h1
    have h2 := h1
    cases h2 with
    | func c d => exact Yields.same hi (run _ hu (by simp) (by simp) (by simp) (by simp)) h1
  · rename_i t' v' hl
    simp only [Option.some.injEq] at h
    subst h
    rw [hl] at h1
    generalize hu : a.eval x = u at h1
    have h2 := h1
    cases h2 with
    | iface c => exact Yields.same hi (run _ hu (by simp) (by simp) (by simp) (by simp)) h1
  · cases h
theorem sound_mkIf {x : Operand} {t : TypeId} {x' : Opd} (ho : o.op = .makeInterface t x) (ht : P.concrete t = true) (he : Slots ρ S w e a) (hi : Inv ρ S w) (hx : opd x = some x') : Yields P o a ρ S w (.iface t (ev e x')) :=
  Yields.same hi (by simp [execOp, ho, run_makeInterface w t _ ht]) (.iface (opd_rel he hx))
theorem sound_tas {x : Operand} {xt t : TypeId} {ok : Bool} {i : TypeInfo} {z : Value} {zv : V} {x' : Opd} (ho : o.op = .typeAssert x xt t ok) (ht : P.concrete t = true) (hti : P.info? t = some i) (hz : i.zero = some z) (hzv : V.ofVal z = some zv) (he : Slots ρ S w e a) (hi : Inv ρ S w) (hx : opd x = some x')
    (h : opV e S (.tas t zv ok x') = some v) : Yields P o a ρ S w v := by
  have h1 := opd_rel he hx
  have hu : ∃ d, P.underlying t = some d ∧ ∀ ms, d ≠ .interface ms := by
    cases hun : P.underlying t with
    | none => simp [Program.concrete, hun] at ht
    | some d => exact ⟨d, rfl, fun ms hm => by subst hm; simp [Program.concrete, hun] at ht⟩
  obtain ⟨d, hd, hni⟩ := hu
  have hzr : VR ρ S w false zv z := V.ofVal_rel hzv false
  have pair : ∀ (p q : V) (a b : Value), VR ρ S w false p a → VR ρ S w false q b → VR ρ S w false (.tup [p, q]) (.tuple #[a, b]) := by
    intro p q a b hp hq
    refine .tup' rfl fun j y hj => ?_
    match j, hj with
    | 0, hj => simp at hj; subst hj; exact ⟨a, rfl, hp⟩
    | 1, hj => simp at hj; subst hj; exact ⟨b, rfl, hq⟩
    | j + 2, hj => simp at hj
  simp only [opV] at h
  split at h
  · rename_i t' v' hl
    rw [hl] at h1
    generalize hux : a.eval x = u at h1
    cases h1 with
    | @iface _ _ _ u' hv' =>
      split at h
      · rename_i htt
        simp only [Option.some.injEq] at h
        subst h htt
        refine Yields.same hi (u := if ok then .tuple #[u', .bool true] else u') ?_ ?_
        · simp only [execOp, ho, hux, Instr.typeAssert, Sem.run_bind, run_underlying hd, Result.andThen_ok]
          cases d <;> first | exact absurd rfl (hni _) | simp
        · cases ok
          · exact hv'
          · exact pair _ _ _ _ hv' .bool
      · rename_i htt
        split at h
        · rename_i hok
          simp only [Option.some.injEq] at h
          subst h hok
          refine Yields.same hi (u := .tuple #[z, .bool false]) ?_ (pair _ _ _ _ hzr .bool)
          simp only [execOp, ho, hux, Instr.typeAssert, Sem.run_bind, run_underlying hd, Result.andThen_ok]
          cases d <;> first | exact absurd rfl (hni _) | simp [htt, zeroValue, typeInfo, hti, hz]
        · cases h
  · rename_i hl
    rw [hl] at h1
    have hux : a.eval x = .nilIface := by generalize a.eval x = u at h1; cases h1; rfl
    split at h
    · rename_i hok
      simp only [Option.some.injEq] at h
      subst h hok
      refine Yields.same hi (u := .tuple #[z, .bool false]) ?_ (pair _ _ _ _ hzr .bool)
      simp only [execOp, ho, hux, Instr.typeAssert, Sem.run_bind, run_underlying hd, Result.andThen_ok]
      cases d <;> first | exact absurd rfl (hni _) | simp [zeroValue, typeInfo, hti, hz]
    · cases h
  · cases h
def nilType (P : Program) (k : Nat) (t : TypeId) : Prop := match k with
  | 0 => ∃ e, P.underlying t = some (.slice e)
  | 1 => ∃ e, P.underlying t = some (.pointer e)
  | 2 => ∃ ms, P.underlying t = some (.interface ms)
  | 3 => ∃ a b c, P.underlying t = some (.func a b c)
  | 4 => ∃ a b, P.underlying t = some (.map a b)
  | _ => False
def nilOf : Nat → Value
  | 0 => .slice none 0 0
  | 1 => .pointer none
  | 2 => .nilIface
  | 3 => .nilFunc
  | _ => .map none
def uNil : Nat → Value → Bool → Prop
  | 0, u, b => ∃ a n c, u = .slice a n c ∧ b = a.isNone
  | 1, u, b => ∃ a, u = .pointer a ∧ b = a.isNone
  | 2, u, b => (u = .nilIface ∧ b = true) ∨ ∃ t v, u = .iface t v ∧ b = false
  | 3, u, b => (u = .nilFunc ∧ b = true) ∨ ∃ f x y, u = .func f x y ∧ b = false
  | _, u, b => ∃ r, u = .map r ∧ b = r.isNone
theorem uNil_of {k : Nat} {u : Value} {b : Bool} (hv : VR ρ S w false v u) (h : nilV S k v = some b) : uNil k u b := by
  unfold nilV at h
  split at h <;> (try simp only [reduceCtorEq, Option.some.injEq] at h)
  · subst h; cases hv; exact ⟨_, _, _, rfl, rfl⟩
  · subst h; cases hv; exact ⟨_, _, _, rfl, rfl⟩
  · rename_i id ver off len
    split at h
    · rename_i hc
      simp only [Option.some.injEq] at h
      subst h
      obtain ⟨⟨t', sz, rows⟩, hs⟩ := Option.isSome_iff_exists.1 hc.1
      obtain ⟨_, hk⟩ := hv.msl_inv hs
      rcases hk with ⟨_, _, h0, _⟩ | ⟨g, tot, _, _, rfl, _⟩ | ⟨_, h0, _⟩
      · have := hc.2; omega
      · exact ⟨_, _, _, rfl, rfl⟩
      · have := hc.2; omega
    · cases h
  · subst h; cases hv; exact ⟨_, rfl, rfl⟩
  · subst h; cases hv; exact ⟨_, rfl, rfl⟩
  · rename_i id ver row off
    split at h
    · rename_i hc
      simp only [Option.some.injEq] at h
      subst h
      obtain ⟨⟨t', sz, rows⟩, hs⟩ := Option.isSome_iff_exists.1 hc
      obtain ⟨g, tot, _, rfl⟩ := hv.ptr_inv hs
      exact ⟨_, rfl, rfl⟩
    · cases h
  · subst h; cases hv; exact .inl ⟨rfl, rfl⟩
  · subst h; cases hv; exact .inr ⟨_, _, rfl, rfl⟩
  · subst h; cases hv; exact .inl ⟨rfl, rfl⟩
  · subst h; cases hv; exact .inr ⟨_, _, _, rfl, rfl⟩
  · subst h; cases hv; exact ⟨_, rfl, rfl⟩
  · rename_i id ver
    split at h
    · rename_i kd rows x hs
      split at h
      · rename_i hx
        simp only [Option.some.injEq] at h
        subst h
        unfold Store.mp? at hs
        split at hs
        · rename_i v' m hs'
          split at hs
          · rename_i hvv
            subst hvv
            simp only [Option.some.injEq, Prod.mk.injEq] at hs
            obtain ⟨_, _, rfl⟩ := hs
            cases hv with
            | mapv _ _ hh _ =>
              obtain ⟨g, _, rfl⟩ := hh m hs'
              exact ⟨some g, by simp [MapC.addr, hx], rfl⟩
          · cases hs
        · cases hs
      · cases h
    · cases h
theorem eqIn_nil {k : Nat} {t : TypeId} {u : Value} {b : Bool} (d : Nat) (hk : k ≤ 4) (ht : nilType P k t) (hu : uNil k u b) (w : World) :
    (Op.equalIn (d + 1) t u (nilOf k)).run P w = .ok b w ∧ (Op.equalIn (d + 1) t (nilOf k) u).run P w = .ok b w := by
  match k, hk with
  | 0, _ =>
    obtain ⟨e, ht⟩ := ht
    obtain ⟨a, n, c, rfl, rfl⟩ := hu
    cases a <;> simp [Op.equalIn, run_underlying ht, nilOf]
  | 1, _ =>
    obtain ⟨e, ht⟩ := ht
    obtain ⟨a, rfl, rfl⟩ := hu
    cases a <;> simp [Op.equalIn, run_underlying ht, nilOf]
  | 2, _ =>
    obtain ⟨ms, ht⟩ := ht
    rcases hu with ⟨rfl, rfl⟩ | ⟨t', v', rfl, rfl⟩ <;> simp [Op.equalIn, run_underlying ht, nilOf]
  | 3, _ =>
    obtain ⟨x, y, z, ht⟩ := ht
    rcases hu with ⟨rfl, rfl⟩ | ⟨f, p, q, rfl, rfl⟩ <;> simp [Op.equalIn, run_underlying ht, nilOf]
  | 4, _ =>
    obtain ⟨x, y, ht⟩ := ht
    obtain ⟨r, rfl, rfl⟩ := hu
    cases r <;> simp [Op.equalIn, run_underlying ht, nilOf]
theorem bin_nil {k : Nat} {t : TypeId} {u : Value} {b : Bool} (hk : k ≤ 4) (ht : nilType P k t) (hu : uNil k u b) (w : World) :
    (binOp .eql t u (nilOf k)).run P w = .ok (.bool b) w ∧ (binOp .eql t (nilOf k) u).run P w = .ok (.bool b) w ∧ (binOp .neq t u (nilOf k)).run P w = .ok (.bool (!b)) w ∧ (binOp .neq t (nilOf k) u).run P w = .ok (.bool (!b)) w := by
  obtain ⟨h1, h2⟩ := eqIn_nil 9999 hk ht hu w
  have h1 : (Op.equal t u (nilOf k)).run P w = .ok b w := h1
  have h2 : (Op.equal t (nilOf k) u).run P w = .ok b w := h2
  match k, hk with
  | 0, _ =>
    obtain ⟨a, n, c, rfl, rfl⟩ := hu
    simp only [nilOf] at h1 h2
    exact ⟨by simp [binOp, nilOf, h1], by simp [binOp, nilOf, h2], by simp [binOp, nilOf, h1], by simp [binOp, nilOf, h2]⟩
  | 1, _ =>
    obtain ⟨a, rfl, rfl⟩ := hu
    simp only [nilOf] at h1 h2
    exact ⟨by simp [binOp, nilOf, h1], by simp [binOp, nilOf, h2], by simp [binOp, nilOf, h1], by simp [binOp, nilOf, h2]⟩
  | 2, _ =>
    simp only [nilOf] at h1 h2
    rcases hu with ⟨rfl, rfl⟩ | ⟨t', v', rfl, rfl⟩
    · exact ⟨by simp [binOp, nilOf, h1], by simp [binOp, nilOf, h2], by simp [binOp, nilOf, h1], by simp [binOp, nilOf, h2]⟩
    · exact ⟨by simp [binOp, nilOf, h1], by simp [binOp, nilOf, h2], by simp [binOp, nilOf, h1], by simp [binOp, nilOf, h2]⟩
  | 3, _ =>
    simp only [nilOf] at h1 h2
    rcases hu with ⟨rfl, rfl⟩ | ⟨f, p, q, rfl, rfl⟩
    · exact ⟨by simp [binOp, nilOf, h1], by simp [binOp, nilOf, h2], by simp [binOp, nilOf, h1], by simp [binOp, nilOf, h2]⟩
    · exact ⟨by simp [binOp, nilOf, h1], by simp [binOp, nilOf, h2], by simp [binOp, nilOf, h1], by simp [binOp, nilOf, h2]⟩
  | 4, _ =>
    obtain ⟨r, rfl, rfl⟩ := hu
    simp only [nilOf] at h1 h2
    exact ⟨by simp [binOp, nilOf, h1], by simp [binOp, nilOf, h2], by simp [binOp, nilOf, h1], by simp [binOp, nilOf, h2]⟩
theorem guard_nil {k : Nat} {t : TypeId} {op : BinOp} {x y : Operand} {u : Value} {b : Bool} (hk : k ≤ 4) (hu : uNil k u b) (w : World) :
    (eqGuard op t x (.const (nilOf k)) u (nilOf k)).run P w = .ok () w ∧ (eqGuard op t (.const (nilOf k)) y (nilOf k) u).run P w = .ok () w := by
  match k, hk with
  | 0, _ => obtain ⟨a, n, c, rfl, rfl⟩ := hu; exact ⟨by unfold eqGuard nilOf; cases op <;> rfl, by unfold eqGuard nilOf; cases op <;> rfl⟩
  | 1, _ => obtain ⟨a, rfl, rfl⟩ := hu; exact ⟨by unfold eqGuard nilOf; cases op <;> rfl, by unfold eqGuard nilOf; cases op <;> rfl⟩
  | 2, _ =>
    rcases hu with ⟨rfl, rfl⟩ | ⟨t', v', rfl, rfl⟩
    · exact ⟨by simp [eqGuard, nilOf], by simp [eqGuard, nilOf]⟩
    · exact ⟨by unfold eqGuard nilOf; cases op <;> rfl, by unfold eqGuard nilOf; cases op <;> rfl⟩
  | 3, _ =>
    rcases hu with ⟨rfl, rfl⟩ | ⟨f, p, q, rfl, rfl⟩
    · exact ⟨by unfold eqGuard nilOf; cases op <;> rfl, by unfold eqGuard nilOf; cases op <;> rfl⟩
    · exact ⟨by unfold eqGuard nilOf; cases op <;> rfl, by unfold eqGuard nilOf; cases op <;> rfl⟩
  | 4, _ => obtain ⟨r, rfl, rfl⟩ := hu; exact ⟨by unfold eqGuard nilOf; cases op <;> rfl, by unfold eqGuard nilOf; cases op <;> rfl⟩
theorem nilOpd_const {k : Nat} {x : Operand} {z : Opd} (hx : opd x = some z) (hz : nilOpd k z = true) : x = .const (nilOf k) ∧ k ≤ 4 := by
  have hofc : ∀ u v, V.ofCell u = some v → (v = .nilSl → u = .slice none 0 0) ∧ (v = .nilPtr → u = .pointer none) ∧ (v = .nilIface → u = .nilIface) ∧ (v = .nilFn → u = .nilFunc) ∧ (v = .nilMap → u = .map none) := by
    intro u v h
    unfold V.ofCell at h
    split at h
    case h_3 =>
      split at h
      · simp only [Option.some.injEq] at h; subst h; simp
      · cases h
    all_goals (simp only [Option.some.injEq, reduceCtorEq] at h; first | (subst h; simp; done) | skip)
  have hof : ∀ u v, V.ofVal u = some v → (v = .nilSl → u = .slice none 0 0) ∧ (v = .nilPtr → u = .pointer none) ∧ (v = .nilIface → u = .nilIface) ∧ (v = .nilFn → u = .nilFunc) ∧ (v = .nilMap → u = .map none) := by
    intro u v h
    unfold V.ofVal at h
    split at h
    · simp only [Option.map_eq_some_iff] at h
      obtain ⟨vs, _, rfl⟩ := h
      simp
    · exact hofc u v h
  unfold opd at hx
  split at hx
  · simp only [Option.some.injEq] at hx; subst hx; simp [nilOpd] at hz
  · rename_i u
    simp only [Option.map_eq_some_iff] at hx
    obtain ⟨v, hv, rfl⟩ := hx
    obtain ⟨h1, h2, h3, h4, h5⟩ := hof u v hv
    unfold nilOpd at hz
    split at hz
    · rename_i heq; cases heq; rw [h1 rfl]; exact ⟨rfl, by omega⟩
    · rename_i heq; cases heq; rw [h2 rfl]; exact ⟨rfl, by omega⟩
    · rename_i heq; cases heq; rw [h3 rfl]; exact ⟨rfl, by omega⟩
    · rename_i heq; cases heq; rw [h4 rfl]; exact ⟨rfl, by omega⟩
    · rename_i heq; cases heq; rw [h5 rfl]; exact ⟨rfl, by omega⟩
    · cases hz
  · cases hx
  · simp only [Option.some.injEq] at hx; subst hx; simp [nilOpd] at hz
theorem sound_nilU {k : Nat} {op : BinOp} {t t' : TypeId} {x y z : Operand} {neg b : Bool} (ho : o.op = .binOp op t x y t') (ht : nilType P k t) (hi : Inv ρ S w) (hop : op = (if neg then .neq else .eql)) (hxy : x = .const (nilOf k) ∧ y = z ∨ y = .const (nilOf k) ∧ x = z) (hk : k ≤ 4)
    (hu : uNil k (a.eval z) b) : Yields P o a ρ S w (.bool (if neg then !b else b)) := by
  obtain ⟨r1, r2, r3, r4⟩ := bin_nil (P := P) hk ht hu w
  refine Yields.same hi (u := .bool (if neg then !b else b)) ?_ .bool
  rcases hxy with ⟨rfl, rfl⟩ | ⟨rfl, rfl⟩
  · have hg := (guard_nil (P := P) (t := t) (op := op) (x := y) (y := y) hk hu w).2
    have ec : a.eval (.const (nilOf k)) = nilOf k := rfl
    cases neg
    · simp only [Bool.false_eq_true, if_false] at hop ⊢
      subst hop
      simp [execOp, ho, ec, hg, r2]
    · simp only [if_true] at hop ⊢
      subst hop
      simp [execOp, ho, ec, hg, r4]
  · have hg := (guard_nil (P := P) (t := t) (op := op) (x := x) (y := x) hk hu w).1
    have ec : a.eval (.const (nilOf k)) = nilOf k := rfl
    cases neg
    · simp only [Bool.false_eq_true, if_false] at hop ⊢
      subst hop
      simp [execOp, ho, ec, hg, r1]
    · simp only [if_true] at hop ⊢
      subst hop
      simp [execOp, ho, ec, hg, r3]
theorem compNil_spec {k k' : Nat} {op : BinOp} {x y : Operand} {x' y' z' : Opd} {neg : Bool} (hx : opd x = some x') (hy : opd y = some y') (hc : compNil k op x' y' = some (.isNil k' neg z')) :
    ∃ z, k' = k ∧ op = (if neg then .neq else .eql) ∧ opd z = some z' ∧ (x = .const (nilOf k) ∧ y = z ∨ y = .const (nilOf k) ∧ x = z) ∧ k ≤ 4 := by
  unfold compNil at hc
  split at hc
  · split at hc
    · rename_i h1
      simp only [Option.some.injEq, AOp.isNil.injEq] at hc
      obtain ⟨rfl, rfl, rfl⟩ := hc
      obtain ⟨h2, h3⟩ := nilOpd_const hy h1
      exact ⟨x, rfl, rfl, hx, .inr ⟨h2, rfl⟩, h3⟩
    · split at hc
      · rename_i h1
        simp only [Option.some.injEq, AOp.isNil.injEq] at hc
        obtain ⟨rfl, rfl, rfl⟩ := hc
        obtain ⟨h2, h3⟩ := nilOpd_const hx h1
        exact ⟨y, rfl, rfl, hy, .inl ⟨h2, rfl⟩, h3⟩
      · cases hc
  · split at hc
    · rename_i h1
      simp only [Option.some.injEq, AOp.isNil.injEq] at hc
      obtain ⟨rfl, rfl, rfl⟩ := hc
      obtain ⟨h2, h3⟩ := nilOpd_const hy h1
      exact ⟨x, rfl, rfl, hx, .inr ⟨h2, rfl⟩, h3⟩
    · split at hc
      · rename_i h1
        simp only [Option.some.injEq, AOp.isNil.injEq] at hc
        obtain ⟨rfl, rfl, rfl⟩ := hc
        obtain ⟨h2, h3⟩ := nilOpd_const hx h1
        exact ⟨y, rfl, rfl, hy, .inl ⟨h2, rfl⟩, h3⟩
      · cases hc
  · cases hc
theorem compNil_isNil {k : Nat} {op : BinOp} {x' y' : Opd} {ao : AOp} (hc : compNil k op x' y' = some ao) : ∃ neg z', ao = .isNil k neg z' := by
  unfold compNil at hc
  repeat' (split at hc)
  all_goals first | (simp only [Option.some.injEq] at hc; exact ⟨_, _, hc.symm⟩) | cases hc
theorem sound_nil {k : Nat} {op : BinOp} {t t' : TypeId} {x y : Operand} {x' y' : Opd} {ao : AOp} (ho : o.op = .binOp op t x y t') (ht : nilType P k t) (he : Slots ρ S w e a) (hi : Inv ρ S w) (hx : opd x = some x') (hy : opd y = some y') (hc : compNil k op x' y' = some ao) (h : opV e S ao = some v) : Yields P o a ρ S w v := by
  obtain ⟨neg, z', rfl⟩ := compNil_isNil hc
  obtain ⟨z, _, hop, hz, hxy, hk⟩ := compNil_spec hx hy hc
  simp only [opV] at h
  split at h
  · rename_i b hb
    simp only [Option.some.injEq] at h
    subst h
    exact sound_nilU ho ht hi hop hxy hk (uNil_of (opd_rel he hz) hb)
  · cases h
end
end Go.AL
