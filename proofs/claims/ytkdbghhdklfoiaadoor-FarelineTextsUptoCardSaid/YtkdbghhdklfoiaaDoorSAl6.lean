/- Contracts on abstract values, and the walk through compiled code. -/
import Derived.Test.YtkdbghhdklfoiaaDoorSAlE
import Derived.Lib.AppendStr
namespace Go.AL
set_option linter.unusedSectionVars false
variable [Mode]
set_option linter.unusedSimpArgs false
set_option linter.unusedVariables false
abbrev Env := List (Nat × V)
def Env.get : Env → Nat → V
  | [], _ => .undef
  | (k, v) :: r, t => if t = k then v else Env.get r t
def Env.put (E : Env) : Option Nat → V → Env
  | some d, v => (d, v) :: E
  | none, _ => E
inductive XStm where
  | uStr (q : TypeId)
  | mkM (kd : KD)
  | mu (kd : KD)
  | mdel (kd : KD)
  | mclr
  | clip (sz : Nat)
  | range
  | next
  | mEnt (kd : KD) (zero : V)
  | mSto
  deriving Inhabited
inductive AStm where
  | p (op : AOp)
  | call (f : FuncId) (args : List Opd)
  | callv (x : Opd) (args : List Opd)
  | boxO (t : TypeId) (x : Opd)
  | newO (t : TypeId) (zero : List V)
  | bslO (q : TypeId) (sz : Nat) (zero : List V) (n : Nat) (parts : List (Nat × Opd))
  | st (n : Nat) (x v : Opd)
  | app (q : TypeId) (sz : Nat) (s x : Opd)
  | mksl (q : TypeId) (sz : Nat) (zero : List V) (l c : Opd)
  | nilD (neg : Bool) (x : Opd)
  | appS (q : TypeId) (s x : Opd)
  | xs (op : XStm) (l : List Opd)
  deriving Inhabited
structure AItem where
  dst : Option Nat
  guard : Option (Nat × Bool)
  stm : AStm
  deriving Inhabited
inductive Fl where
  | loud
  | quiet
  | stable
  | grow
  deriving DecidableEq, Inhabited
inductive AT (α : Type) where
  | fin
  | one (x : α) (r : AT α)
  | alt (a b : AT α)
  deriving Inhabited
structure Hint where
  own : Nat → Bool
  ord : Nat → List (Nat × Fl)
inductive ACode where
  | skip
  | reg (ops : List AItem)
  | oreg (l : List (Fl × AItem))
  | oreg2 (pre a b : List (Fl × AItem))
  | oregT (t : AT (Fl × AItem))
  | seq (a b : ACode)
  | cond (c : Opd) (x y : ACode)
  | block (id : Nat) (c : ACode)
  | loop (c : ACode)
  | exit (id : Nat)
  | ret
  | stuck
  | frz (t : Nat)
  deriving Inhabited
def callable (P : Program) (f : FuncId) : Prop := ∃ fn, P.funcs[f]? = some fn ∧ (fn.name == "runtime.NumGoroutine") = false ∧ fn.body.isNone = false
def CallA (P : Program) (f : FuncId) (args : List V) (S : Store) (R : V → Store → Prop) : Prop :=
  callable P f ∧ ∀ (ρ : Place) (w : World) (us : Array Value), Inv ρ S w → VRs ρ S w args us →
    Calls P f us w fun en w' => ∃ ρ' S' r u, en = .returned u ∧ VR ρ' S' w' false r u ∧ Inv ρ' S' w' ∧ Ext ρ S w ρ' S' w' ∧ R r S'
theorem CallA.mono {P : Program} {f : FuncId} {args : List V} {S : Store} {R R' : V → Store → Prop} (h : CallA P f args S R) (hr : ∀ v S', R v S' → R' v S') : CallA P f args S R' :=
  ⟨h.1, fun ρ w us hi hv => (h.2 ρ w us hi hv).mono fun _ _ ⟨ρ', S', r, u, h1, h2, h3, h4, h5⟩ => ⟨ρ', S', r, u, h1, h2, h3, h4, hr _ _ h5⟩⟩
def pureK (v : Option V) (S : Store) (K : V → Store → Prop) : Prop :=
  match v with
  | some v => K v S
  | none => False
def stK (n : Nat) (p : V) (o : Option (List V)) (S : Store) (K : V → Store → Prop) : Prop :=
  match p, o with
  | .ptr id ver row off, some vs => match S.obj? id ver with
    | some (t, sz, rows) => match rows[row]? with
      | some r => vs.length = n ∧ off + n ≤ r.length ∧ K .skipped (S.set id ⟨ver, some (.arr t sz (rows.set row (splice r off vs)))⟩)
      | none => False
    | none => False
  | _, _ => False
def roomA : Nat := 4294967296
def appK (q : TypeId) (sz : Nat) (v : V) (src : Option (Nat × List (List V))) (S : Store) (K : V → Store → Prop) : Prop :=
  match v, src with
  | .nilSl, some (sz', rs) => sz' = sz ∧ rs.length ≤ roomA ∧ K (.msl S.length 0 0 rs.length) (S ++ [⟨0, some (.arr q sz rs)⟩])
  | .msl id ver 0 len, some (sz', rs) => match S.obj? id ver with
    | some (t, sz'', rows) => t = q ∧ sz' = sz ∧ sz'' = sz ∧ rows.length = len ∧ len + rs.length ≤ roomA ∧ K (.msl id (ver + 1) 0 (len + rs.length)) (S.set id ⟨ver + 1, some (.arr q sz (rows ++ rs))⟩)
    | none => False
  | _, _ => False
def srcOf (S : Store) (sz : Nat) : V → Option (Nat × List (List V))
  | .nilSl => some (sz, [])
  | v => srcRows S v
def strRows (l : List UInt8) : List (List V) := l.map fun b => [.int .u8 b.toNat]
def srcS : V → Option (Nat × List (List V))
  | .str l => some (1, strRows l)
  | _ => none
def mkK (q : TypeId) (sz : Nat) (zero : List V) (l c : V) (S : Store) (K : V → Store → Prop) : Prop :=
  match l, c with
  | .int _ n, .int _ m => 0 ≤ n ∧ n ≤ m ∧ m ≤ (roomA : Int) ∧ K (.msl S.length 0 0 n.toNat) (S ++ [⟨0, some (.arr q sz (zrows zero n.toNat))⟩])
  | _, _ => False
def nilDK (neg : Bool) (v : V) (S : Store) (K : V → Store → Prop) : Prop :=
  match v with
  | .sl _ [] => K (.bool true) S ∧ K (.bool false) S
  | .msl id ver _ 0 => (S.obj? id ver).isSome = true ∧ K (.bool true) S ∧ K (.bool false) S
  | v => match nilV S 0 v with
    | some b => K (.bool (if neg then !b else b)) S
    | none => False
def uStrK (q : TypeId) (x l : V) (S : Store) (K : V → Store → Prop) : Prop :=
  match x, l with
  | .nilPtr, .int .i64 n => n = 0 ∧ K (.str []) S
  | .ptr id ver row off, .int .i64 n => match S.obj? id ver with
    | some (t, sz, rows) => row = 0 ∧ off = 0 ∧ t = q ∧ sz = 1 ∧ ∃ bs, rows = strRows bs ∧ n = bs.length ∧ bs ≠ [] ∧ K (.str bs) (S.set id ⟨ver + 1, none⟩)
    | none => False
  | _, _ => False
def muK (kd : KD) (m k : V) (r : V) (f : List (V × V) → List (V × V)) (S : Store) (K : V → Store → Prop) : Prop :=
  match m with
  | .mapv id ver => match S.mp? id ver with
    | some (kd', rows, x) => x = .free ∧ kd' = kd ∧ isKV kd k = true ∧ K r (S.set id ⟨ver, some (.mp ⟨kd, f rows, .free⟩)⟩)
    | none => False
  | _ => False
def mclrK (m : V) (S : Store) (K : V → Store → Prop) : Prop :=
  match m with
  | .mapv id ver => match S.mp? id ver with
    | some (kd, _, x) => x = .free ∧ K (.tup []) (S.set id ⟨ver, some (.mp ⟨kd, [], .free⟩)⟩)
    | none => False
  | _ => False
def mkMK (kd : KD) (S : Store) (K : V → Store → Prop) : Prop := K (.mapv S.length 0) (S ++ [⟨0, some (.mp ⟨kd, [], .free⟩)⟩])
def rangeK (m : V) (S : Store) (K : V → Store → Prop) : Prop :=
  match m with
  | .nilMap => K (.mapv S.length 0) (S ++ [⟨0, some (.mp ⟨.st [], [], .iter none none⟩)⟩])
  | .mapv id ver => match S.mp? id ver with
    | some (kd, rows, x) => x = .free ∧ K (.mapv S.length 0) ((S.set id ⟨ver, some (.mp ⟨kd, rows, .held S.length⟩)⟩) ++ [⟨0, some (.mp ⟨kd, rows, .iter (some (id, ver)) none⟩)⟩])
    | none => False
  | _ => False
def nextK (m : V) (S : Store) (K : V → Store → Prop) : Prop :=
  match m with
  | .mapv it iver => match S.mp? it iver with
    | some (_, _, .iter none _) => K (.tup [.bool false]) S
    | some (kd, rest, .iter (some (id, ver)) _) => match S.mp? id ver with
      | some (kd', rows, .held it') => it' = it ∧ (rest = [] → K (.tup [.bool false]) (S.set id ⟨ver, some (.mp ⟨kd', rows, .free⟩)⟩)) ∧
          ∀ (p : V × V) (rest' : List (V × V)), rest.Perm (p :: rest') → K (.tup [.bool true, p.1, p.2]) (S.set it ⟨iver, some (.mp ⟨kd, rest', .iter (some (id, ver)) (some p)⟩)⟩)
      | _ => False
    | _ => False
  | _ => False
def mEntK (kd : KD) (zero m k : V) (S : Store) (K : V → Store → Prop) : Prop :=
  match m with
  | .mapv id ver => match S.mp? id ver with
    | some (kd', rows, x) => x = .free ∧ kd' = kd ∧ isKV kd k = true ∧
        ∀ (j n : Nat) (p : V × V), (putV k ((findV k rows).getD zero) rows)[j]? = some p → eqKV k p.1 = true → (∀ (i : Nat) (q : V × V), i < j → (putV k ((findV k rows).getD zero) rows)[i]? = some q → eqKV k q.1 = false) →
          K (.tup [(findV k rows).getD zero, .int .i64 n]) (S.set id ⟨ver, some (.mp ⟨kd, putV k ((findV k rows).getD zero) rows, .opened j n⟩)⟩)
    | none => False
  | _ => False
def mStoK (m s v : V) (S : Store) (K : V → Store → Prop) : Prop :=
  match m, s with
  | .mapv id ver, .int .i64 n' => match S.mp? id ver with
    | some (kd, rows, .opened j n) => n' = (n : Int) ∧ K .skipped (S.set id ⟨ver, some (.mp ⟨kd, rows.modify j (fun p => (p.1, v)), .free⟩)⟩)
    | _ => False
  | _, _ => False
def clipK (sz : Nat) (x h m : V) (S : Store) (K : V → Store → Prop) : Prop :=
  match x, h, m with
  | .nilSl, .int _ b, .int _ c => b = 0 ∧ c = 0 ∧ K .nilSl S
  | .msl id ver 0 len, .int _ b, .int _ c => match S.obj? id ver with
    | some (t, sz', rows) => sz' = sz ∧ 0 ≤ b ∧ b ≤ c ∧ c ≤ len ∧ K (.msl id (ver + 1) 0 b.toNat) (S.set id ⟨ver + 1, some (.arr t sz' (rows.take b.toNat))⟩)
    | none => False
  | _, _, _ => False
def xstmA (op : XStm) (l : List V) (S : Store) (K : V → Store → Prop) : Prop :=
  match op, l with
  | .uStr q, [x, n] => uStrK q x n S K
  | .mkM kd, [] => mkMK kd S K
  | .mkM kd, [.int _ _] => mkMK kd S K
  | .mu kd, [m, k, v] => muK kd m k .skipped (putV k v) S K
  | .mdel kd, [m, k] => muK kd m k (.tup []) (delV k) S K
  | .mclr, [m] => mclrK m S K
  | .clip sz, [x, h, m] => clipK sz x h m S K
  | .mEnt kd zero, [m, k] => mEntK kd zero m k S K
  | .mSto, [m, s, v] => mStoK m s v S K
  | .range, [m] => rangeK m S K
  | .next, [m] => nextK m S K
  | _, _ => False
def stmA (P : Program) (s : AStm) (e : Nat → V) (S : Store) (K : V → Store → Prop) : Prop :=
  match s with
  | .p op => pureK (opV e S op) S K
  | .call f args => CallA P f (evs e args) S K
  | .callv x args => match ev e x with
    | .func f first cap => CallA P f (first ++ evs e args ++ cap) S K
    | _ => False
  | .boxO t x => match (ev e x).cells? with
    | some vs => K (.ptr S.length 0 0 0) (S ++ [⟨0, some (.arr t vs.length [vs])⟩])
    | none => False
  | .newO t zero => K (.ptr S.length 0 0 0) (S ++ [⟨0, some (.arr t zero.length [zero])⟩])
  | .bslO q sz zero n parts => match fillR e sz (zrows zero n) parts with
    | some rows => K (.msl S.length 0 0 n) (S ++ [⟨0, some (.arr q sz rows)⟩])
    | none => False
  | .st n x v => stK n (ev e x) (ev e v).cells? S K
  | .app q sz s x => appK q sz (ev e s) (srcOf S sz (ev e x)) S K
  | .mksl q sz zero l c => mkK q sz zero (ev e l) (ev e c) S K
  | .nilD neg x => nilDK neg (ev e x) S K
  | .appS q s x => appK q 1 (ev e s) (srcS (ev e x)) S K
  | .xs op l => xstmA op (evs e l) S K
def guardA (g : Option (Nat × Bool)) (E : Env) (a b : Env → Prop) : Prop :=
  match g with
  | none => a E
  | some (t, want) => match E.get t with
    | .bool x => (x = want → a ((t, .bool want) :: E)) ∧ (x = !want → b ((t, .bool !want) :: E))
    | .skipped => b E
    | _ => False
def regA (P : Program) : List AItem → Env → Store → (Env → Store → Prop) → Prop
  | [], E, S, K => K E S
  | ⟨d, g, s⟩ :: r, E, S, K => guardA g E (fun E => stmA P s E.get S fun v S' => regA P r (E.put d v) S' K) (fun E => regA P r (E.put d .skipped) S K)
def stmD (P : Program) (s : AStm) (e : Nat → V) (S : Store) (K : V → Prop) : Prop :=
  match s with
  | .p op => match opV e S op with
    | some v => K v
    | none => False
  | .call f args => ∃ v, CallA P f (evs e args) S (fun r S' => r = v ∧ S' = S) ∧ K v
  | .callv x args => match ev e x with
    | .func f first cap => ∃ v, CallA P f (first ++ evs e args ++ cap) S (fun r S' => r = v ∧ S' = S) ∧ K v
    | _ => False
  | _ => False
def AOp.free : AOp → Bool
  | .lenA _ | .idxA .. | .idxR .. | .faddr .. | .ld1 _ | .ldn .. | .slA .. | .nilChk _ | .isNil .. | .b2s _ | .xo .. => false
  | _ => true
def stableA (P : Program) (s : AStm) (e : Nat → V) (v : V) : Prop :=
  match s with
  | .p op => op.free = true ∨ ∀ S, opV e S op = some v
  | .call f args => ∀ S, CallA P f (evs e args) S (fun r S' => r = v ∧ S' = S)
  | .callv x args => match ev e x with
    | .func f first cap => ∀ S, CallA P f (first ++ evs e args ++ cap) S (fun r S' => r = v ∧ S' = S)
    | _ => False
  | _ => False
def growA (P : Program) (s : AStm) (e : Nat → V) (S : Store) (v : V) : Prop :=
  match s with
  | .p _ => True
  | .call f args => ∀ T, CallA P f (evs e args) (S ++ T) (fun r S' => r = v ∧ S' = S ++ T)
  | .callv x args => match ev e x with
    | .func f first cap => ∀ T, CallA P f (first ++ evs e args ++ cap) (S ++ T) (fun r S' => r = v ∧ S' = S ++ T)
    | _ => False
  | _ => False
def itemO (P : Program) (f : Fl) (s : AStm) (e : Nat → V) (S : Store) (K : V → Store → Prop) : Prop :=
  match f with
  | .loud => stmA P s e S K
  | .quiet => stmD P s e S fun v => K v S
  | .stable => stmD P s e S fun v => stableA P s e v ∧ K v S
  | .grow => stmD P s e S fun v => growA P s e S v ∧ K v S
def regO (P : Program) : List (Fl × AItem) → Env → Store → (Env → Store → Prop) → Prop
  | [], E, S, K => K E S
  | (f, ⟨d, g, s⟩) :: r, E, S, K => guardA g E (fun E => itemO P f s E.get S fun v S' => regO P r (E.put d v) S' K) (fun E => regO P r (E.put d .skipped) S K)
def regT (P : Program) : AT (Fl × AItem) → Env → Store → (Env → Store → Prop) → Prop
  | .fin, E, S, K => K E S
  | .one x r, E, S, K => regO P [x] E S fun E S => regT P r E S K
  | .alt a b, E, S, K => regT P a E S K ∧ regT P b E S K
def zeroT (P : Program) (t : TypeId) : Option (List V) :=
  match P.info? t with
  | some i => (i.zero.bind V.ofVal).bind V.cells?
  | none => none
def bytesOk (P : Program) (q : TypeId) : Bool := match P.info? q with
  | some i => decide (i.bytes ≤ 32768)
  | none => false
def isStrT (P : Program) (t : TypeId) : Bool := match P.underlying t with
  | some .string => true
  | _ => false
theorem isStrT_true {P : Program} {t : TypeId} (h : isStrT P t = true) : P.underlying t = some .string := by
  unfold isStrT at h
  split at h
  · assumption
  · cases h
def isNoEsc (P : Program) (f : FuncId) : Bool := match P.funcs[f]? with
  | some fn => fn.name == "internal/abi.NoEscape" && fn.origin == "" && fn.body.isNone
  | none => false
def compXE (P : Program) (o : Oper) : Option AStm :=
  match o.op with
  | .makeMap t r => match P.underlying t, oopd r with
    | some (.map kt _), some r' => (kdOf P kt).map fun kd => .xs (.mkM kd) r'.toList
    | _, _ => none
  | .range t x => match P.underlying t, opd x with
    | some (.map _ _), some x => some (.xs .range [x])
    | _, _ => none
  | .next x false => match opd x with
    | some x => some (.xs .next [x])
    | none => none
  | .mapEntry t m k => match P.underlying t, opd m, opd k with
    | some (.map kt et), some m, some k => match kdOf P kt, zeroV P et with
      | some kd, some z => some (.xs (.mEnt kd z) [m, k])
      | _, _ => none
    | _, _, _ => none
  | .entryStore _ m s x => match opd m, opd s, opd x with
    | some m, some s, some x => some (.xs .mSto [m, s, x])
    | _, _, _ => none
  | .mapUpdate t m k v => match P.underlying t, opd m, opd k, opd v with
    | some (.map kt _), some m, some k, some v => (kdOf P kt).map fun kd => .xs (.mu kd) [m, k, v]
    | _, _, _, _ => none
  | .insert t m k v => match P.underlying t, opd m, opd k, opd v with
    | some (.map kt _), some m, some k, some v => (kdOf P kt).map fun kd => .xs (.mu kd) [m, k, v]
    | _, _, _, _ => none
  | .call c => match c.callee, c.args.toList with
    | .builtin .unsafeString, [x, l] => match c.argTypes.toList, opd x, opd l with
      | [pt, _], some x, some l => match P.underlying pt with
        | some (.pointer e) => if P.cellsOf e = 1 then some (.xs (.uStr e) [x, l]) else none
        | _ => none
      | _, _, _ => none
    | .value (.func f), [x] => if isNoEsc P f then (opd x).map fun x => .p (.mv x) else none
    | .builtin .delete, [m, k] => match c.argTypes.toList, opd m, opd k with
      | [t, _], some m, some k => match P.underlying t with
        | some (.map kt _) => (kdOf P kt).map fun kd => .xs (.mdel kd) [m, k]
        | _ => none
      | _, _, _ => none
    | .builtin .clear, [m] => match c.argTypes.toList, opd m with
      | [t], some m => match P.underlying t with
        | some (.map _ _) => some (.xs .mclr [m])
        | _ => none
      | _, _ => none
    | _, _ => none
  | _ => none
def compEff (P : Program) (own : Hint) (o : Oper) : Option AStm :=
  match o.op with
  | .box t x => if (o.dst.map own.own).getD false then (opd x).map (.boxO t) else none
  | .buildSlice t n parts => if (o.dst.map own.own).getD false then
      match rowT P t, partsR parts.toList with
      | some (q, sz, zero), some ps => if n * sz ≤ 2 ^ 24 then some (.bslO q sz zero n ps) else none
      | _, _ => none
    else none
  | .alloc t => (zeroT P t).map (.newO t)
  | .store t x v => match sizeT P t, opd x, opd v with
    | some n, some x, some v => some (.st n x v)
    | _, _, _ => none
  | .makeSlice t l c => match rowT P t, opd l, opd c with
    | some (q, sz, zero), some l, some c => if bytesOk P q then some (.mksl q sz zero l c) else none
    | _, _, _ => none
  | .call c => match c.callee, opds c.args.toList with
    | .value (.func f), some l => if isNoEsc P f then none else some (.call f l)
    | .value (.tmp t), some l => some (.callv (.t t) l)
    | .builtin .append, some [s, x] => match c.argTypes.toList with
      | [t, t'] => match rowT P t with
        | some (q, sz, _) => if t = t' ∧ bytesOk P q = true then some (.app q sz s x) else if sz = 1 ∧ isStrT P t' = true ∧ bytesOk P q = true then some (.appS q s x) else none
        | none => none
      | _ => none
    | _, _ => none
  | .binOp op t x y _ => if (o.dst.map own.own).getD false then
      match P.underlying t, opd x, opd y with
      | some (.slice _), some x, some y => match compNil 0 op x y with
        | some (.isNil _ neg z) => some (.nilD neg z)
        | _ => none
      | _, _, _ => none
    else none
  | .slice t x none (some h) (some m) => if (o.dst.map own.own).getD false then
      match P.underlying t, opd x, opd h, opd m with
      | some (.slice e), some x, some h, some m => (sizeT P e).map fun n => .xs (.clip n) [x, h, m]
      | _, _, _, _ => none
    else none
  | _ => none
def compStm (P : Program) (own : Hint) (o : Oper) : Option AStm :=
  match compEff P own o with
  | some s => some s
  | none => match compXE P o with
    | some s => some s
    | none => (compOp P o).map .p
def compGuard (ops : Array Oper) : Option (Nat × Bool) → Option (Option (Nat × Bool))
  | none => some none
  | some (j, want) => match (ops[j]?).bind (·.dst) with
    | some t => some (some (t, want))
    | none => none
def compItems (P : Program) (own : Hint) (N : Nat) (ops : Array Oper) : List Oper → Option (List AItem)
  | [] => some []
  | o :: r => match compStm P own o, compGuard ops o.guard, compItems P own N ops r with
    | some s, some g, some is => if (o.dst.map (fun x => decide (x < N))).getD true then some (⟨o.dst, g, s⟩ :: is) else none
    | _, _, _ => none
def Opd.looks : Opd → List Nat
  | .t n => [n]
  | .c _ => []
def oLooks : Option Opd → List Nat
  | some x => x.looks
  | none => []
def AOp.looks : AOp → List Nat
  | .mv x | .not x | .neg x | .lenS x | .lenA x | .faddr _ x | .ld1 x | .ldn _ x | .fld1 _ x | .fldn _ _ x | .conv _ x | .ext _ x | .boxI x | .nilChk x | .mkIf _ x | .tas _ _ _ x | .isNil _ _ x | .b2s x => x.looks
  | .pick a b c => a.looks ++ b.looks ++ c.looks
  | .bin _ x y | .eqb _ x y | .idxS x y | .idxA _ x y | .idxR _ _ x y | .idxV _ x y | .minmax _ x y => x.looks ++ y.looks
  | .build _ ps => ps.flatMap fun p => p.2.2.looks
  | .bsl _ _ _ ps => ps.flatMap fun p => p.2.looks
  | .mkfn _ a b => a.flatMap Opd.looks ++ b.flatMap Opd.looks
  | .slS x a b | .slA _ x a b => x.looks ++ oLooks a ++ oLooks b
  | .xo _ l => l.flatMap Opd.looks
def AStm.looks : AStm → List Nat
  | .p op => op.looks
  | .call _ l => l.flatMap Opd.looks
  | .callv x l => x.looks ++ l.flatMap Opd.looks
  | .boxO _ x => x.looks
  | .newO _ _ => []
  | .bslO _ _ _ _ ps => ps.flatMap fun p => p.2.looks
  | .st _ x v => x.looks ++ v.looks
  | .app _ _ x y => x.looks ++ y.looks
  | .mksl _ _ _ x y => x.looks ++ y.looks
  | .nilD _ x => x.looks
  | .appS _ x y => x.looks ++ y.looks
  | .xs _ l => l.flatMap Opd.looks
def AItem.looks (i : AItem) : List Nat := i.stm.looks ++ (match i.guard with
  | some (t, _) => [t]
  | none => [])
def AItem.apart (x y : AItem) : Bool :=
  (match x.dst with
   | some d => !(y.looks).contains d && y.dst != some d
   | none => true) &&
  (match y.dst with
   | some d => !(x.looks).contains d
   | none => true)
def AItem.grows (i : AItem) : Bool := match i.stm with
  | .newO .. | .boxO .. | .bslO .. => true
  | _ => false
def maskOf (ms : List Nat) (o : Oper) : Nat := o.after.toList.foldl (fun m e => if Region.binds .any e then m ||| (2 ^ e.on ||| ms.getD e.on 0) else m) 0
def masksOf : List Oper → List Nat → List Nat
  | [], ms => ms
  | o :: r, ms => masksOf r (ms ++ [maskOf ms o])
def masks (ops : Array Oper) : List Nat := masksOf ops.toList []
def flOf (full : List (Nat × Fl)) (i : Nat) : Fl := match full.find? (fun p => p.1 == i) with
  | some p => p.2
  | none => .loud
def okO (ops : Array Oper) (items : List AItem) (ms : List Nat) (full : List (Nat × Fl)) : Nat → List (Nat × Fl) → Bool
  | _, [] => true
  | done, (i, f) :: r =>
    !done.testBit i && decide (flOf full i = f) &&
    (match ops[i]?, items[i]? with
     | some o, some x => (o.after.toList.all fun e => !Region.binds .any e || done.testBit e.on) &&
       (r.all fun p => (ms.getD p.1 0).testBit i || (decide (f ≠ .loud) && (match items[p.1]? with
         | some y => x.apart y && (decide (p.2 ≠ .loud) || decide (f = .stable) || (decide (f = .grow) && y.grows))
         | none => false)))
     | _, _ => false) && okO ops items ms full (done ||| 2 ^ i) r
def selO (items : List AItem) : List (Nat × Fl) → Option (List (Fl × AItem))
  | [] => some []
  | (i, f) :: r => match items[i]?, selO items r with
    | some it, some l => some ((f, it) :: l)
    | _, _ => none
def orderOk (ops : Array Oper) (items : List AItem) (l : List (Nat × Fl)) : Bool :=
  decide (l.length = ops.size) && ((List.range ops.size).all fun i => l.any fun p => p.1 == i) && okO ops items (masks ops) l 0 l
def splitAt_ (m : Nat) : List (Nat × Fl) → Option (List (Nat × Fl) × List (Nat × Fl))
  | [] => none
  | (i, f) :: r => if i = m then some ([], r) else match splitAt_ m r with
    | some (a, b) => some ((i, f) :: a, b)
    | none => none
def splitTw (l : List (Nat × Fl)) : Option (List (Nat × Fl) × List (Nat × Fl) × List (Nat × Fl)) :=
  match splitAt_ 1000000 l with
  | some (pre, r) => match splitAt_ 1000001 r with
    | some (a, b) => some (pre, a, b)
    | none => none
  | none => none
def okI (ops : Array Oper) (items : List AItem) (ms : List Nat) (full rest : List (Nat × Fl)) (done i : Nat) (f : Fl) : Bool :=
  !done.testBit i && decide (flOf full i = f) &&
    (match ops[i]?, items[i]? with
     | some o, some x => (o.after.toList.all fun e => !Region.binds .any e || done.testBit e.on) &&
       (rest.all fun p => (ms.getD p.1 0).testBit i || (decide (f ≠ .loud) && (match items[p.1]? with
         | some y => x.apart y && (decide (p.2 ≠ .loud) || decide (f = .stable) || (decide (f = .grow) && y.grows))
         | none => false)))
     | _, _ => false)
def okP (ops : Array Oper) (items : List AItem) (ms : List Nat) (full tail : List (Nat × Fl)) : Nat → List (Nat × Fl) → Option Nat
  | done, [] => some done
  | done, (i, f) :: r => if okI ops items ms full (r ++ tail) done i f = true then okP ops items ms full tail (done ||| 2 ^ i) r else none
def okTw (ops : Array Oper) (items : List AItem) (ms : List Nat) (full : List (Nat × Fl)) (done : Nat) : List (Nat × Fl) → List (Nat × Fl) → Bool
  | (i, .loud) :: r, (j, .loud) :: r2 => decide (i ≠ j) &&
      (r.all fun p => p.1 == j || (ms.getD p.1 0).testBit i || (ms.getD p.1 0).testBit j) && (r.all fun p => p.1 == j || r2.any fun q => q.1 == p.1) && (r2.any fun q => q.1 == i) &&
      decide (r.length = r2.length) && decide (flOf full i = .loud) && decide (flOf full j = .loud) && !done.testBit i && !done.testBit j &&
      (match ops[i]?, ops[j]?, items[i]?, items[j]? with
       | some o, some o', some _, some _ => (o.after.toList.all fun e => !Region.binds .any e || done.testBit e.on) && (o'.after.toList.all fun e => !Region.binds .any e || done.testBit e.on)
       | _, _, _, _ => false) &&
      okO ops items ms full (done ||| 2 ^ i) r && okO ops items ms full (done ||| 2 ^ j) r2
  | _, _ => false
def orderOk2 (ops : Array Oper) (items : List AItem) (pre post post2 : List (Nat × Fl)) : Bool :=
  decide ((pre ++ post).length = ops.size) && ((List.range ops.size).all fun i => (pre ++ post).any fun p => p.1 == i) && (match okP ops items (masks ops) (pre ++ post) post 0 pre with
    | some d => okTw ops items (masks ops) (pre ++ post) d post post2
    | none => false) && (post.all fun p => decide (flOf (pre ++ post) p.1 = p.2)) && (post2.all fun p => decide (flOf (pre ++ post) p.1 = p.2))
def selT (items : List AItem) : AT (Nat × Fl) → Option (AT (Fl × AItem))
  | .fin => some .fin
  | .one (i, f) r => match items[i]?, selT items r with
    | some it, some l => some (.one (f, it) l)
    | _, _ => none
  | .alt a b => match selT items a, selT items b with
    | some x, some y => some (.alt x y)
    | _, _ => none
def headsT : AT (Nat × Fl) → List Nat
  | .fin => []
  | .one (i, _) _ => [i]
  | .alt a b => headsT a ++ headsT b
def fullT : AT (Nat × Fl) → List (Nat × Fl)
  | .fin => []
  | .one x r => x :: fullT r
  | .alt a _ => fullT a
def remT (full : List (Nat × Fl)) (done : Nat) : List (Nat × Fl) := full.filter fun p => !done.testBit p.1
def okT (ops : Array Oper) (items : List AItem) (ms : List Nat) (full : List (Nat × Fl)) : AT (Nat × Fl) → Bool → Nat → Nat → Bool
  | .fin, under, n, done => !under && decide (n = 0) && ((List.range ops.size).all fun i => done.testBit i)
  | .one (i, f) r, under, n, done => match n with
    | 0 => false
    | n + 1 => (if under = true then decide (f = .loud) && decide (flOf full i = .loud) && !done.testBit i && (match ops[i]?, items[i]? with
        | some o, some _ => o.after.toList.all fun e => !Region.binds .any e || done.testBit e.on
        | _, _ => false) else okI ops items ms full (remT full (done ||| 2 ^ i)) done i f) && okT ops items ms full r false n (done ||| 2 ^ i)
  | .alt a b, under, n, done => match n with
    | 0 => false
    | n + 1 => (under || (remT full done).all fun p => (headsT a ++ headsT b).contains p.1 || (headsT a ++ headsT b).any fun h => (ms.getD p.1 0).testBit h) && (okT ops items ms full a true (n + 1) done && okT ops items ms full b true (n + 1) done)
def parseT : Nat → List (Nat × Fl) → Option (AT (Nat × Fl) × List (Nat × Fl))
  | 0, _ => none
  | _ + 1, [] => some (.fin, [])
  | n + 1, (i, f) :: r => if i = 1000002 then match parseT n r with
      | some (a, r1) => match parseT n r1 with
        | some (b, r2) => some (.alt a b, r2)
        | none => none
      | none => none
    else if i = 1000003 then some (.fin, r) else match parseT n r with
      | some (t, r1) => some (.one (i, f) t, r1)
      | none => none
def treeOf (l : List (Nat × Fl)) : Option (AT (Nat × Fl)) := match parseT (l.length + 1) l with
  | some (t, []) => some t
  | _ => none
def orderOkT (ops : Array Oper) (items : List AItem) (t : AT (Nat × Fl)) : Bool :=
  ((List.range ops.size).all fun i => (fullT t).any fun p => p.1 == i && decide (flOf (fullT t) i = p.2)) && okT ops items (masks ops) (fullT t) t false ops.size 0
def frzOf (own : Hint) (N id : Nat) : Option Nat := (List.range N).find? fun t => own.own (1000000 * (t + 1) + id)
def frzC (o : Option Nat) (c : ACode) : ACode := match o with
  | none => c
  | some t => .seq c (.frz t)
def compC (P : Program) (own : Hint) (N : Nat) : Code → Option ACode
  | .skip => some .skip
  | .region id ops false => (compItems P own N ops ops.toList).map fun l => frzC (frzOf own N id) (.reg l)
  | .region id ops true => match compItems P own N ops ops.toList, P.follows .mixedOrders with
    | some items, true => if (own.ord id).any (fun p => p.1 == 1000002) then match treeOf (own.ord id) with
        | some t => if orderOkT ops items t then (selT items t).map .oregT else none
        | none => none
      else match splitTw (own.ord id) with
      | none => if orderOk ops items (own.ord id) then (selO items (own.ord id)).map .oreg else none
      | some (pre, post, post2) => if orderOk2 ops items pre post post2 then match selO items pre, selO items post, selO items post2 with
        | some a, some b, some c => some (.oreg2 a b c)
        | _, _, _ => none else none
    | _, _ => none
  | .seq a b => match compC P own N a, compC P own N b with
    | some a, some b => some (.seq a b)
    | _, _ => none
  | .cond c x y => match opd c, compC P own N x, compC P own N y with
    | some c, some x, some y => some (.cond c x y)
    | _, _, _ => none
  | .block id c => (compC P own N c).map (.block id)
  | .loop c => (compC P own N c).map .loop
  | .exit id => some (.exit id)
  | .ret => some .ret
  | _ => some .stuck
structure Base where
  ρ : Place
  S : Store
  w : World
structure Rel (N : Nat) (ρ : Place) (S : Store) (w : World) (e : Nat → V) (a : Act) : Prop where
  inv : Inv ρ S w
  defers : a.defers = []
  size : a.tmps.size = N
  slots : Slots ρ S w e a
def okExit : Exit → Prop
  | .normal | .exit _ | .ret => True
  | _ => False
def post (N : Nat) (σ : Base) (Q : Exit → Env → Store → Prop) : Exit → Act → World → Prop := fun x a w =>
  okExit x ∧ ∃ ρ E S, Ext σ.ρ σ.S σ.w ρ S w ∧ Rel N ρ S w E.get a ∧ Q x E S
def W (P : Program) (N : Nat) (σ : Base) (c : Code) (Q : Exit → Env → Store → Prop) (E : Env) (S : Store) : Prop :=
  ∀ ρ a w, Ext σ.ρ σ.S σ.w ρ S w → Rel N ρ S w E.get a → c.wp P (post N σ Q) a w
def LoopA (P : Program) (N : Nat) (σ : Base) (b : ACode) (Q : Exit → Env → Store → Prop) (E : Env) (S : Store) : Prop :=
  ∀ c own, compC P own N c = some b → W P N σ (.loop c) Q E S
def thenA (K : Env → Store → Prop) (Q : Exit → Env → Store → Prop) : Exit → Env → Store → Prop
  | .normal, E, S => K E S
  | x, E, S => Q x E S
def blockA (id : Nat) (Q : Exit → Env → Store → Prop) : Exit → Env → Store → Prop
  | .exit i, E, S => if i = id then Q .normal E S else Q (.exit i) E S
  | x, E, S => Q x E S
def condA (v : V) (x y : Prop) : Prop :=
  match v with
  | .bool b => (b = true → x) ∧ (b = false → y)
  | _ => False
def frzO (o : Option (TypeId × Nat × List (List V))) (id ver t : Nat) (E : Env) (S : Store) (K : Env → Store → Prop) : Prop := match o with
  | some (_, _, [cells]) => V.allImm cells = true ∧ K ((t, .cptr cells) :: E) (S.set id ⟨ver, none⟩)
  | _ => False
def frzB (v : V) (t : Nat) (E : Env) (S : Store) (K : Env → Store → Prop) : Prop := match v with
  | .ptr id ver 0 0 => frzO (S.obj? id ver) id ver t E S K
  | _ => False
def wpA (P : Program) (N : Nat) (σ : Base) : ACode → (Exit → Env → Store → Prop) → Env → Store → Prop
  | .skip, Q, E, S => Q .normal E S
  | .reg ops, Q, E, S => regA P ops E S (Q .normal)
  | .oreg l, Q, E, S => regO P l E S (Q .normal)
  | .oreg2 a b c, Q, E, S => regO P a E S fun E S => regO P b E S (Q .normal) ∧ regO P c E S (Q .normal)
  | .oregT t, Q, E, S => regT P t E S (Q .normal)
  | .seq a b, Q, E, S => wpA P N σ a (thenA (wpA P N σ b Q) Q) E S
  | .cond c x y, Q, E, S => condA (ev E.get c) (wpA P N σ x Q E S) (wpA P N σ y Q E S)
  | .block id c, Q, E, S => wpA P N σ c (blockA id Q) E S
  | .loop c, Q, E, S => LoopA P N σ c Q E S
  | .exit id, Q, E, S => Q (.exit id) E S
  | .ret, Q, E, S => Q .ret E S
  | .stuck, _, _, _ => False
  | .frz t, Q, E, S => frzB (E.get t) t E S (Q .normal)
section
variable {P : Program} {N : Nat} {σ : Base}
theorem Slots.put {ρ : Place} {S : Store} {w : World} {E : Env} {a : Act} (h : Slots ρ S w E.get a) {d : Option Nat} (hd : (d.map (fun x => decide (x < a.tmps.size))).getD true = true) {v : V} {u : Value} (hv : VR ρ S w false v u) :
    Slots ρ S w (E.put d v).get (a.put d u) := by
  cases d with
  | none => exact h
  | some d =>
    intro t
    simp only [Option.map_some, Option.getD_some, decide_eq_true_eq] at hd
    simp only [Env.put, Env.get, Act.put, Array.getD_eq_getD_getElem?, Array.getElem?_setIfInBounds]
    by_cases ht : t = d
    · subst ht; simp [hd]; exact hv
    · rw [if_neg ht, if_neg (fun hh => ht hh.symm)]
      have := h t
      rwa [Array.getD_eq_getD_getElem?] at this
theorem Slots.ext {ρ ρ' : Place} {S S' : Store} {w w' : World} {e : Nat → V} {a : Act} (h : Slots ρ S w e a) (hx : Ext ρ S w ρ' S' w') : Slots ρ' S' w' e a := fun t => (h t).ext hx
theorem opds_rel {ρ : Place} {S : Store} {w : World} {e : Nat → V} {a : Act} (he : Slots ρ S w e a) : ∀ {xs : List Operand} {ys : List Opd}, opds xs = some ys → xs.length = ys.length ∧ ∀ (j : Nat) (v : V), (evs e ys)[j]? = some v → ∃ u, (xs.map a.eval)[j]? = some u ∧ VR ρ S w false v u
  | [], ys, h => by simp only [opds, Option.some.injEq] at h; subst h; simp [evs]
  | x :: xs, ys, h => by
    simp only [opds] at h
    split at h
    · rename_i y ys' hy hys
      simp only [Option.some.injEq] at h
      subst h
      obtain ⟨a1, a2⟩ := opds_rel he hys
      refine ⟨by simp [a1], fun j v hv => ?_⟩
      cases j with
      | zero => simp [evs] at hv; subst hv; exact ⟨_, by simp, opd_rel he hy⟩
      | succ j => simp only [evs, List.map_cons, List.getElem?_cons_succ] at hv ⊢; exact a2 j v hv
    · cases h
def StmPost (P : Program) (o : Oper) (a : Act) (ρ : Place) (S : Store) (w : World) (K : V → Store → Prop) : Prop :=
  ∀ (next : Act → World → Prop) (Q : Exit → Act → World → Prop),
    (∀ ρ' S' w' v u, VR ρ' S' w' false v u → Inv ρ' S' w' → Ext ρ S w ρ' S' w' → K v S' → next (a.put o.dst u) w') → o.wp P a w next Q
theorem call_wp {ρ : Place} {S : Store} {w : World} {a : Act} {o : Oper} {f : FuncId} {args : List V} {us : Array Value} {K : V → Store → Prop} (hi : Inv ρ S w) (hr : (execOp a.eval o).run P w = (callFunc f us).run P w)
    (hv : VRs ρ S w args us) (h : CallA P f args S K) : StmPost P o a ρ S w K := by
  intro next Q hn
  obtain ⟨⟨fn, h1, h2, h3⟩, h4⟩ := h
  have hrun : (execOp a.eval o).run P w = .ok (.enter f us) w := by
    rw [hr]
    simp only [callFunc, Sem.run_bind, run_program, Result.andThen_ok, h1, h2, h3]
    rfl
  unfold Oper.wp
  rw [hrun]
  show Calls P f us w _
  refine (h4 ρ w us hi hv).mono fun en w' ⟨ρ', S', r, u, e1, e2, e3, e4, e5⟩ => ?_
  subst e1
  exact hn ρ' S' w' r u e2 e3 e4 e5
theorem post_value {ρ : Place} {S : Store} {w : World} {a : Act} {o : Oper} {K : V → Store → Prop} {u : Value} {w' : World} {ρ' : Place} {S' : Store} {v : V} (hr : (execOp a.eval o).run P w = .ok (.value u) w') (h1 : VR ρ' S' w' false v u) (h2 : Inv ρ' S' w') (h3 : Ext ρ S w ρ' S' w') (h4 : K v S') :
    StmPost P o a ρ S w K := by
  intro next Q hn
  unfold Oper.wp
  rw [hr]
  exact hn ρ' S' w' v u h1 h2 h3 h4
theorem alloc_facts (w : World) (cur : Array Value) (t : TypeId) : (w.alloc (.cells cur t)).heap.size = w.heap.size + 1 ∧ (∀ k, k < w.heap.size → (w.alloc (.cells cur t)).heap[k]? = w.heap[k]?) ∧ (w.alloc (.cells cur t)).heap[w.heap.size]? = some (.cells cur t (0, 0)) :=
  ⟨by simp, fun _ hk => Go.heap_alloc_old w _ hk, Go.heap_alloc_new w _⟩
theorem RRH.one {ρ : Place} {S : Store} {w : World} {vs : List V} {us : Array Value} (h : CR ρ S w vs us) : RRH ρ S w vs.length [vs] us := by
  refine ⟨fun i r hr => ?_, fun i r hr j y hj => ?_⟩
  · match i, hr with
    | 0, hr => simp at hr; rw [hr]
    | i + 1, hr => simp at hr
  · match i, hr with
    | 0, hr =>
      simp at hr
      subst hr
      obtain ⟨x, h1, h2, h3⟩ := h.2 j y hj
      exact ⟨x, by simpa using h1, h2, h3⟩
    | i + 1, hr => simp at hr
theorem st_sound {o : Oper} {t : TypeId} {n : Nat} {x v : Operand} {x' v' : Opd} {ρ : Place} {S : Store} {w : World} {e : Nat → V} {a : Act} {K : V → Store → Prop} (ho : o.op = .store t x v) (hn : sizeT P t = some n) (hx : opd x = some x') (hv : opd v = some v') (he : Slots ρ S w e a) (hi : Inv ρ S w)
    (h : stK n (ev e x') (ev e v').cells? S K) : StmPost P o a ρ S w K := by
  intro next Q hnx
  unfold stK at h
  split at h
  · rename_i id ver row off vs hp hvs
    split at h
    · rename_i q sz rows hs
      split at h
      · rename_i r hr
        obtain ⟨hl, hle, hK⟩ := h
        have h1 := opd_rel he hx
        rw [hp] at h1
        obtain ⟨g, tot, hg, hu⟩ := h1.ptr_inv hs
        have h2 := (opd_rel he hv).toCR hvs
        have hso := obj_some hs
        obtain ⟨cur, c1, c2, c3, c4, c5⟩ := hi.obj hso hg
        have hrow := (List.getElem?_eq_some_iff.1 hr).1
        have hrl := c5.1 row r hr
        have hb : row * sz + sz ≤ tot * sz := by
          have := Nat.mul_le_mul_right sz (show row + 1 ≤ tot by omega)
          rwa [Nat.add_mul, Nat.one_mul] at this
        have hst := run_storeCells_at P g (row * sz + off) q (a.eval v).cells.toList 0 cur w c3 (by rw [Array.length_toList, h2.1]; omega) (fun y hy => by
          obtain ⟨j, hj⟩ := List.mem_iff_getElem?.1 hy
          have hjl : j < vs.length := by rw [← h2.1]; have := (List.getElem?_eq_some_iff.1 hj).1; simpa using this
          obtain ⟨z, e1, _, e3⟩ := h2.2 j vs[j] (List.getElem?_eq_getElem hjl)
          have hj' : (a.eval v).cells[j]? = some y := by simpa using hj
          rw [e1] at hj'
          cases hj'
          exact e3)
        simp only [Nat.add_zero] at hst
        have hcs : (a.eval v).cells.size = n := by rw [h2.1, hl]
        have hrun : (execOp a.eval o).run P w = .ok .skip (w.setRow g (cur.toList.take (row * sz + off) ++ (a.eval v).cells.toList ++ cur.toList.drop (row * sz + off + (a.eval v).cells.toList.length)).toArray) := by
          have hsv : (storeVar t ⟨g, row * sz + off, none⟩ (a.eval v)).run P w = .ok () (w.setRow g (cur.toList.take (row * sz + off) ++ (a.eval v).cells.toList ++ cur.toList.drop (row * sz + off + (a.eval v).cells.toList.length)).toArray) := by
            simp only [storeVar, Sem.run_bind, run_sizeT hn, Result.andThen_ok, hcs, ne_eq, not_true_eq_false, if_false]
            exact hst
          simp only [execOp, ho, Instr.storeAt, hu, Instr.sureAddr, Sem.run_bind, Sem.run_pure, Result.andThen_ok, hsv]
        generalize hcur' : (cur.toList.take (row * sz + off) ++ (a.eval v).cells.toList ++ cur.toList.drop (row * sz + off + (a.eval v).cells.toList.length)).toArray = cur' at hrun
        have hget : ∀ k, cur'[k]? = if row * sz + off ≤ k ∧ k < row * sz + off + n then (a.eval v).cells[k - (row * sz + off)]? else cur[k]? := by
          intro k
          rw [← hcur', List.getElem?_toArray]
          have hlen : (cur.toList.take (row * sz + off) ++ (a.eval v).cells.toList).length = row * sz + off + n := by simp [hcs]; omega
          by_cases k1 : k < row * sz + off
          · rw [List.getElem?_append_left (by omega), List.getElem?_append_left (by simp; omega), List.getElem?_take, if_pos k1, if_neg (by omega)]
            simp
          · by_cases k2 : k < row * sz + off + n
            · rw [List.getElem?_append_left (by omega), List.getElem?_append_right (by simp; omega), if_pos (by omega)]
              simp only [List.length_take, Array.length_toList]
              have : k - min (row * sz + off) cur.size = k - (row * sz + off) := by omega
              rw [this]
              simp
            · rw [List.getElem?_append_right (by omega), hlen, List.getElem?_drop, if_neg (by omega)]
              simp only [Array.length_toList, hcs]
              have : row * sz + off + n + (k - (row * sz + off + n)) = k := by omega
              rw [this]
              simp
        have hcsz : cur'.size = cur.size := by
          rw [← hcur']
          simp [hcs]
          omega
        have hrr : RRH ρ S w sz (rows.set row (splice r off vs)) cur' := by
          have hspl : (splice r off vs).length = sz := by simp [splice]; omega
          refine ⟨fun i r' hr' => ?_, fun i r' hr' j y hj => ?_⟩
          · rw [List.getElem?_set] at hr'
            split at hr'
            · simp only [Option.some.injEq] at hr'; rw [← hr']; exact hspl
            · exact c5.1 i r' hr'
          · rw [hget]
            rw [List.getElem?_set] at hr'
            split at hr'
            · rename_i hir
              simp only [Option.some.injEq] at hr'
              subst hr' hir
              have hjl : j < sz := by rw [← hspl]; exact (List.getElem?_eq_some_iff.1 hj).1
              simp only [splice] at hj
              have hlen : (r.take off ++ vs).length = off + n := by simp; omega
              by_cases k1 : j < off
              · rw [if_neg (by omega)]
                rw [List.getElem?_append_left (by omega), List.getElem?_append_left (by simp; omega), List.getElem?_take, if_pos k1] at hj
                exact c5.2 row r hr j y hj
              · by_cases k2 : j < off + n
                · rw [if_pos (by omega)]
                  rw [List.getElem?_append_left (by omega), List.getElem?_append_right (by simp; omega)] at hj
                  simp only [List.length_take] at hj
                  have e1 : j - min off r.length = j - off := by omega
                  rw [e1] at hj
                  have e2 : row * sz + j - (row * sz + off) = j - off := by omega
                  rw [e2]
                  exact h2.2 _ y hj
                · rw [if_neg (by omega)]
                  rw [List.getElem?_append_right (by omega), hlen, List.getElem?_drop, hl] at hj
                  have : off + n + (j - (off + n)) = j := by omega
                  rw [this] at hj
                  exact c5.2 row r hr j y hj
            · rename_i hir
              have hjl : j < sz := by rw [← c5.1 i r' hr']; exact (List.getElem?_eq_some_iff.1 hj).1
              rw [if_neg]
              · exact c5.2 i r' hr' j y hj
              · rintro ⟨k1, k2⟩
                have e1 : i * sz + j = row * sz + (i * sz + j - row * sz) := by omega
                have := row_eq hjl (by omega) e1
                exact hir this.1.symm
        have hso' : ∀ k, k ≠ g → (w.setRow g cur').heap[k]? = w.heap[k]? := fun k hk => setRow_other w g k cur' hk
        obtain ⟨i1, i2⟩ := set_obj (w' := w.setRow g cur') (ver' := ver) (g' := g) (tot' := tot) (rows' := rows.set row (splice r off vs)) (cur := cur') hi hso hg (.inl ⟨rfl, rfl, fun _ => by simp⟩) (Nat.le_refl _) (by simp [World.setRow]) rfl ⟨rfl, by first | exact Nat.le_refl _ | exact Nat.le_succ _ | exact Nat.zero_le _⟩ rfl (fun k _ hk => hso' k hk)
          (setRow_heap w g cur cur' q (0, 0) c3) (by simpa using c1) c2 (by rw [hcsz, c4]) hrr
        unfold Oper.wp
        rw [hrun]
        exact hnx _ _ _ .skipped Go.undef .skipped i1 i2 hK
      · cases h
    · cases h
  · cases h
theorem run_append_empty {t ty q : TypeId} {n : Nat} (w : World) (ht : P.underlying t = some (.slice q)) (hz : sizeT P q = some n) {base b : Option Addr} {len cap c : Nat} (hle : len ≤ cap) :
    (Builtin.append_ #[t, t] ty #[.slice base len cap, .slice b 0 c]).run P w = .ok (.slice base len cap) w := by
  have hf : (Builtin.firstCells n 0 (.slice b 0 c)).run P w = .ok #[] w := by cases b <;> simp [Builtin.firstCells, loadCells, loadCellsFrom]
  cases base <;> simp [Builtin.append_, run_underlying ht, run_sizeT hz, Builtin.lenOf, hle, hf, storeCells]
structure AppRuns (P : Program) (w : World) (ts : Array TypeId) (ty q : TypeId) (i : TypeInfo) (z ux : Value) (n : Nat) (news : List Value) : Prop where
  nil : (n : Int) ≤ 9223372036854775807 → n * i.bytes ≤ 281474976710656 →
    (Builtin.append_ ts ty #[.slice none 0 0, ux]).run P w = .ok (.slice (some ⟨w.heap.size, 0, none⟩) n (grownCap w n 0 q)) (w.drew.alloc (.cells (news.toArray ++ Builtin.zeroCells z.cells (grownCap w n 0 q - n)) q))
  room : ∀ (g sLen sCap : Nat) (cur : Array Value), w.heap[g]? = some (.cells cur q (0, 0)) → sLen + n ≤ sCap → sLen * i.size + news.length ≤ cur.size →
    (Builtin.append_ ts ty #[.slice (some ⟨g, 0, none⟩) sLen sCap, ux]).run P w = .ok (.slice (some ⟨g, 0, none⟩) (sLen + n) sCap) (w.setRow g (cur.toList.take (sLen * i.size) ++ news ++ cur.toList.drop (sLen * i.size + news.length)).toArray)
  grow : ∀ (b : Addr) (sLen sCap : Nat) (olds : List Value), olds.length = sLen * i.size → (∀ (j : Nat) (v : Value), olds[j]? = some v → w.cell? (b.add j) = some v) → sCap < sLen + n → ((sLen + n : Nat) : Int) ≤ 9223372036854775807 → Builtin.nextslicecap (sLen + n) sCap * i.bytes ≤ 281474976710656 →
    (Builtin.append_ ts ty #[.slice (some b) sLen sCap, ux]).run P w = .ok (.slice (some ⟨w.heap.size, 0, none⟩) (sLen + n) (grownCap w (sLen + n) sCap q))
      (w.drew.alloc (.cells (olds.toArray ++ news.toArray ++ Builtin.zeroCells z.cells (grownCap w (sLen + n) sCap q - (sLen + n))) q))
theorem app_core {o : Oper} {t t2 q : TypeId} {sz : Nat} {zero : List V} {s x : Operand} {s' : Opd} {sr : Option (Nat × List (List V))} {ρ : Place} {S : Store} {w : World} {e : Nat → V} {a : Act} {K : V → Store → Prop} (ho : o.op = .call { callee := .builtin .append, args := #[s, x], argTypes := #[t, t2] })
    (ht : rowT P t = some (q, sz, zero)) (hb : bytesOk P q = true) (hs : opd s = some s') (he : Slots ρ S w e a) (hi : Inv ρ S w)
    (src : ∀ rs, sr = some (sz, rs) → (rs = [] ∧ ∀ (base : Option Addr) (len cap : Nat), len ≤ cap → (Builtin.append_ #[t, t2] o.type #[.slice base len cap, a.eval x]).run P w = .ok (.slice base len cap) w) ∨
      (0 < rs.length ∧ ∃ news : Array Value, RR ρ S w sz rs news ∧ ∀ (i : TypeInfo) (z : Value), P.info? q = some i → i.zero = some z → AppRuns P w #[t, t2] o.type q i z (a.eval x) rs.length news.toList))
    (h : appK q sz (ev e s') sr S K) : StmPost P o a ρ S w K := by
  obtain ⟨hu, i, z, h1, h2, h3, h4, h5, h6⟩ := rowT_some ht
  have hbytes : i.bytes ≤ 32768 := by simpa [bytesOk, h1] using hb
  have hzc : z.cells.size = sz := by
    simp only [Option.bind_eq_some_iff] at h4
    obtain ⟨zv, z1, z2⟩ := h4
    rw [((V.ofVal_rel (ρ := ρ) (S := S) (w := w) z1 false).toCR z2).1, h5]
  have hexec : ∀ us u w', a.eval s = us → (Builtin.append_ #[t, t2] o.type #[us, a.eval x]).run P w = .ok u w' → (execOp a.eval o).run P w = .ok (.value u) w' := by
    intro us u w' e1 e3
    simp [execOp, ho, resolve, invoke, builtin, e1, e3]
  have room : ∀ n, n ≤ roomA → n * i.bytes ≤ 140737488355328 ∧ n ≤ 9223372036854775807 := by
    intro n hn
    unfold roomA at hn
    refine ⟨?_, by omega⟩
    calc n * i.bytes ≤ 4294967296 * 32768 := Nat.mul_le_mul hn hbytes
      _ = 140737488355328 := by decide
  have hsv := opd_rel he hs
  have join : ∀ (rows rs : List (List V)) (cur news : Array Value) (rest : List Value), RRH ρ S w sz rows cur → RR ρ S w sz rs news → rows.length * sz ≤ cur.size →
      RRH ρ S w sz (rows ++ rs) (cur.toList.take (rows.length * sz) ++ news.toList ++ rest).toArray := by
    intro rows rs cur news rest hc hn hle
    refine ⟨fun i r hr => ?_, fun i r hr j y hj => ?_⟩
    · rcases Nat.lt_or_ge i rows.length with hlt | hge
      · rw [List.getElem?_append_left hlt] at hr; exact hc.1 i r hr
      · rw [List.getElem?_append_right hge] at hr; exact hn.2.1 _ r hr
    · have hlen : (cur.toList.take (rows.length * sz)).length = rows.length * sz := by simp; omega
      rcases Nat.lt_or_ge i rows.length with hlt | hge
      · rw [List.getElem?_append_left hlt] at hr
        obtain ⟨u, e1, e2, e3⟩ := hc.2 i r hr j y hj
        have hjl : j < sz := by rw [← hc.1 i r hr]; exact (List.getElem?_eq_some_iff.1 hj).1
        have := row_lt (sz := sz) hlt hjl
        refine ⟨u, ?_, e2, e3⟩
        rw [List.getElem?_toArray, List.append_assoc, List.getElem?_append_left (by omega), List.getElem?_take, if_pos this]
        simpa using e1
      · rw [List.getElem?_append_right hge] at hr
        obtain ⟨u, e1, e2, e3⟩ := hn.2.2 _ r hr j y hj
        have hjl : j < sz := by rw [← hn.2.1 _ r hr]; exact (List.getElem?_eq_some_iff.1 hj).1
        have hil : i - rows.length < rs.length := (List.getElem?_eq_some_iff.1 hr).1
        have hlt := row_lt (sz := sz) hil hjl
        have hsplit : i * sz + j = rows.length * sz + ((i - rows.length) * sz + j) := by
          have : i = rows.length + (i - rows.length) := by omega
          rw [this, Nat.add_mul, Nat.add_sub_cancel_left, Nat.add_assoc]
        have hns : news.toList.length = rs.length * sz := by rw [← hn.1]; exact Array.length_toList
        refine ⟨u, ?_, e2, e3⟩
        rw [List.getElem?_toArray, List.append_assoc, List.getElem?_append_right (by omega), hlen, hsplit, Nat.add_sub_cancel_left, List.getElem?_append_left (by rw [hns]; exact hlt)]
        simpa using e1
  unfold appK at h
  split at h
  · rename_i sz' rs hl
    obtain ⟨rfl, hrm, hK⟩ := h
    rw [hl] at hsv
    have hus : a.eval s = .slice none 0 0 := by generalize a.eval s = u at hsv; cases hsv; rfl
    rcases src rs rfl with ⟨rfl, hemp⟩ | ⟨hpos, news, n1, hruns⟩
    · have hrun := hexec _ _ _ hus (hemp _ _ _ (Nat.le_refl 0))
      obtain ⟨k1, k2⟩ := push_nil (ver := 0) (sz := sz') (t := q) hi
      exact post_value hrun (msl_nil (by simp)) k1 k2 hK
    · obtain ⟨r1, r2⟩ := room _ hrm
      have hnl : news.toList.length = rs.length * sz' := by rw [← n1.1]; exact Array.length_toList
      have hap := (hruns i z h1 h3).nil (by omega) (by omega)
      have hrun := hexec _ _ _ hus hap
      have hcap := grownCap_ge w rs.length 0 q
      have hcm := grownCap_le_maxLen w rs.length 0 q (by unfold maxLen; omega)
      obtain ⟨k1, k2⟩ := push_obj (w' := w.drew.alloc (.cells (news.toList.toArray ++ Builtin.zeroCells z.cells (grownCap w rs.length 0 q - rs.length)) q)) (ver := 0) (sz := sz') (rows := rs) (tot := grownCap w rs.length 0 q) hi rfl (by simp) rfl ⟨rfl, by first | exact Nat.le_refl _ | exact Nat.le_succ _ | exact Nat.zero_le _⟩ rfl
        (fun k hk => Go.heap_alloc_old w.drew _ hk) (Go.heap_alloc_new w.drew _) hcap hcm (by simp only [Array.size_append, List.size_toArray, hnl, size_zeroCells, hzc, ← Nat.add_mul]; congr 1; omega)
        (by
          have hj := join [] rs #[] news (Builtin.zeroCells z.cells (grownCap w rs.length 0 q - rs.length)).toList ⟨by simp, by simp⟩ n1 (by simp)
          have ea : (news.toList ++ (Builtin.zeroCells z.cells (grownCap w rs.length 0 q - rs.length)).toList).toArray = news.toList.toArray ++ (Builtin.zeroCells z.cells (grownCap w rs.length 0 q - rs.length)) := by simp
          rw [← ea]
          simpa only [List.length_nil, Nat.zero_mul, List.take_zero, List.nil_append] using hj)
      exact post_value hrun (msl_new (by simp [upd]) (Nat.le_refl _) hcap) k1 k2 hK
  · rename_i id ver len sz' rs hl
    split at h
    · rename_i t' sz'' rows hobj
      obtain ⟨rfl, rfl, rfl, rfl, hrm, hK⟩ := h
      rw [hl] at hsv
      obtain ⟨m1, m2⟩ := hsv.msl_inv hobj
      have hso := obj_some hobj
      have hid := (List.getElem?_eq_some_iff.1 hso).1
      rcases m2 with ⟨m2, hus, hl0, _⟩ | ⟨g0, tot, cap, m2, hus, m3, m4, m5⟩ | ⟨m2, _⟩
      · have hrows : rows = [] := List.eq_nil_of_length_eq_zero hl0
        subst hrows
        simp only [List.length_nil, Nat.zero_add, List.nil_append] at hK hrm
        rcases src rs rfl with ⟨rfl, hemp⟩ | ⟨hpos, news, n1, hruns⟩
        · have hrun := hexec _ _ _ hus (hemp _ _ _ (Nat.le_refl 0))
          obtain ⟨k1, k2⟩ := set_nil hi hso m2
          exact post_value hrun (msl_set_nil hid m2) k1 k2 hK
        · obtain ⟨r1, r2⟩ := room _ hrm
          have hnl : news.toList.length = rs.length * sz'' := by rw [← n1.1]; exact Array.length_toList
          have hap := (hruns i z h1 h3).nil (by omega) (by omega)
          have hrun := hexec _ _ _ hus hap
          have hcap := grownCap_ge w rs.length 0 t'
          have hcm := grownCap_le_maxLen w rs.length 0 t' (by unfold maxLen; omega)
          obtain ⟨k1, k2⟩ := set_obj0 (w' := w.drew.alloc (.cells (news.toList.toArray ++ Builtin.zeroCells z.cells (grownCap w rs.length 0 t' - rs.length)) t')) (ver' := ver + 1) (rows' := rs) (tot' := grownCap w rs.length 0 t') (g' := w.heap.size) hi hso m2 (Nat.le_refl _) (by omega) (by simp) rfl ⟨rfl, by first | exact Nat.le_refl _ | exact Nat.le_succ _ | exact Nat.zero_le _⟩ rfl
            (fun k hk => Go.heap_alloc_old w.drew _ hk) (Go.heap_alloc_new w.drew _) hcap hcm (by simp only [Array.size_append, List.size_toArray, hnl, size_zeroCells, hzc, ← Nat.add_mul]; congr 1; omega)
            (by
              have hj := join [] rs #[] news (Builtin.zeroCells z.cells (grownCap w rs.length 0 t' - rs.length)).toList ⟨by simp, by simp⟩ n1 (by simp)
              have ea : (news.toList ++ (Builtin.zeroCells z.cells (grownCap w rs.length 0 t' - rs.length)).toList).toArray = news.toList.toArray ++ (Builtin.zeroCells z.cells (grownCap w rs.length 0 t' - rs.length)) := by simp
              rw [← ea]
              simpa only [List.length_nil, Nat.zero_mul, List.take_zero, List.nil_append] using hj)
          exact post_value hrun (msl_set hid (by simp [upd]) (Nat.le_refl _) hcap (Nat.le_refl _)) k1 k2 hK
      · simp only [Nat.zero_mul, Nat.sub_zero, Nat.zero_add] at hus m3 m5
        obtain ⟨cur, c1, c2, c3, c4, c5⟩ := hi.obj hso m2
        rcases src rs rfl with ⟨rfl, hemp⟩ | ⟨hpos, news, n1, hruns⟩
        · have hrun := hexec _ _ _ hus (hemp _ _ _ m4)
          simp only [List.length_nil, Nat.add_zero, List.append_nil] at hK
          obtain ⟨k1, k2⟩ := set_obj (w' := w) (ver' := ver + 1) (g' := g0) (tot' := tot) (rows' := rows) (cur := cur) hi hso m2 (.inl ⟨rfl, rfl, fun hv => by omega⟩) (by omega) (Nat.le_refl _) rfl ⟨rfl, by first | exact Nat.le_refl _ | exact Nat.le_succ _ | exact Nat.zero_le _⟩ rfl (fun _ _ _ => rfl) c3 c1 c2 c4 c5
          exact post_value hrun (msl_set hid (by simp [upd]) (Nat.le_refl _) m4 m5) k1 k2 hK
        · obtain ⟨r1, r2⟩ := room _ hrm
          have hnl : news.toList.length = rs.length * sz'' := by rw [← n1.1]; exact Array.length_toList
          have hlen : (rows ++ rs).length = rows.length + rs.length := by simp
          have hcl : rows.length * sz'' ≤ cur.size := by rw [c4]; exact Nat.mul_le_mul_right _ c1
          by_cases hroom : rows.length + rs.length ≤ cap
          · have hfit : rows.length * i.size + news.toList.length ≤ cur.size := by rw [hnl, h2, c4, ← Nat.add_mul]; exact Nat.mul_le_mul_right _ (Nat.le_trans hroom m5)
            have hap := (hruns i z h1 h3).room g0 rows.length cap cur c3 hroom hfit
            have hrun := hexec _ _ _ hus hap
            rw [h2] at hrun hfit
            generalize hcur' : (cur.toList.take (rows.length * sz'') ++ news.toList ++ cur.toList.drop (rows.length * sz'' + news.toList.length)).toArray = cur' at hrun
            have hcsz : cur'.size = cur.size := by
              rw [← hcur']
              simp only [List.size_toArray, List.length_append, List.length_take, List.length_drop, Array.length_toList] at hfit ⊢
              omega
            obtain ⟨k1, k2⟩ := set_obj (w' := w.setRow g0 cur') (ver' := ver + 1) (g' := g0) (tot' := tot) (rows' := rows ++ rs) (cur := cur') hi hso m2 (.inl ⟨rfl, rfl, fun hv => by omega⟩) (by omega) (by simp [World.setRow]) rfl ⟨rfl, by first | exact Nat.le_refl _ | exact Nat.le_succ _ | exact Nat.zero_le _⟩ rfl (fun k _ hk => setRow_other w g0 k cur' hk)
              (setRow_heap w g0 cur cur' t' (0, 0) c3) (by rw [hlen]; exact Nat.le_trans hroom m5) c2 (by rw [hcsz, c4]) (by rw [← hcur']; exact join rows rs cur news _ c5 n1 hcl)
            exact post_value hrun (msl_set hid (by simp [upd]) (by rw [hlen]; exact Nat.le_refl _) hroom m5) k1 k2 hK
          · have holds : ∀ (j : Nat) (y : Value), (cur.toList.take (rows.length * sz''))[j]? = some y → w.cell? ((⟨g0, 0, none⟩ : Addr).add j) = some y := by
              intro j y hj
              rw [List.getElem?_take] at hj
              split at hj
              · rw [Addr.add_lit, Nat.zero_add]
                simp only [World.cell?, c3]
                simpa using hj
              · cases hj
            have hap := (hruns i z h1 h3).grow ⟨g0, 0, none⟩ rows.length cap (cur.toList.take (rows.length * sz'')) (by simp only [List.length_take, Array.length_toList, h2]; omega) holds (by omega) (by omega) (growslice_fits (by omega) r1)
            have hrun := hexec _ _ _ hus hap
            have hcap := grownCap_ge w (rows.length + rs.length) cap t'
            have hcm := grownCap_le_maxLen w (rows.length + rs.length) cap t' (by unfold maxLen; omega)
            obtain ⟨k1, k2⟩ := set_obj (w' := w.drew.alloc (.cells ((cur.toList.take (rows.length * sz'')).toArray ++ news.toList.toArray ++ Builtin.zeroCells z.cells (grownCap w (rows.length + rs.length) cap t' - (rows.length + rs.length))) t')) (ver' := ver + 1) (rows' := rows ++ rs) (tot' := grownCap w (rows.length + rs.length) cap t') (g' := w.heap.size) hi hso m2 (.inr ⟨Nat.le_refl _, by omega⟩) (by omega) (by simp) rfl ⟨rfl, by first | exact Nat.le_refl _ | exact Nat.le_succ _ | exact Nat.zero_le _⟩ rfl
              (fun k hk _ => Go.heap_alloc_old w.drew _ hk) (Go.heap_alloc_new w.drew _) (by rw [hlen]; exact hcap) hcm (by
                simp only [Array.size_append, List.size_toArray, hnl, size_zeroCells, hzc, List.length_take, Array.length_toList, Nat.min_eq_left hcl, ← Nat.add_mul]; congr 1; omega)
              (by
                have hj := join rows rs cur news (Builtin.zeroCells z.cells (grownCap w (rows.length + rs.length) cap t' - (rows.length + rs.length))).toList c5 n1 hcl
                have ea : (cur.toList.take (rows.length * sz'') ++ news.toList ++ (Builtin.zeroCells z.cells (grownCap w (rows.length + rs.length) cap t' - (rows.length + rs.length))).toList).toArray = (cur.toList.take (rows.length * sz'')).toArray ++ news.toList.toArray ++ (Builtin.zeroCells z.cells (grownCap w (rows.length + rs.length) cap t' - (rows.length + rs.length))) := by simp
                rw [← ea]
                exact hj)
            exact post_value hrun (msl_set hid (by simp [upd]) (by rw [hlen]; exact Nat.le_refl _) hcap (Nat.le_refl _)) k1 k2 hK
      · exact absurd m2 (Nat.lt_irrefl 0)
    · cases h
  · cases h
theorem app_sound {o : Oper} {t q : TypeId} {sz : Nat} {zero : List V} {s x : Operand} {s' x' : Opd} {ρ : Place} {S : Store} {w : World} {e : Nat → V} {a : Act} {K : V → Store → Prop} (ho : o.op = .call { callee := .builtin .append, args := #[s, x], argTypes := #[t, t] })
    (ht : rowT P t = some (q, sz, zero)) (hb : bytesOk P q = true) (hs : opd s = some s') (hx : opd x = some x') (he : Slots ρ S w e a) (hi : Inv ρ S w) (h : appK q sz (ev e s') (srcOf S sz (ev e x')) S K) : StmPost P o a ρ S w K := by
  obtain ⟨hu, i0, z0, h1, h2, h3, h4, h5, h6⟩ := rowT_some ht
  have hsz : sizeT P q = some sz := by simp [sizeT, h1, h2]
  have src : ∀ rs, srcOf S sz (ev e x') = some (sz, rs) → (rs = [] ∧ ∃ b c, a.eval x = .slice b 0 c) ∨ (0 < rs.length ∧ ∃ g off c, ∃ news : Array Value, a.eval x = .slice (some ⟨g, off, none⟩) rs.length c ∧ RR ρ S w sz rs news ∧ (∀ (j : Nat) (y : Value), news.toList[j]? = some y → w.cell? ((⟨g, off, none⟩ : Addr).add j) = some y) ∧ ∀ y ∈ news.toList, y.oneCell' = true) := by
    intro rs hrs
    have hv := opd_rel he hx
    have gen : srcRows S (ev e x') = some (sz, rs) → _ := fun hr => src_cells hi hv hr h6
    unfold srcOf at hrs
    split at hrs
    · rename_i hl
      simp only [Option.some.injEq, Prod.mk.injEq, true_and] at hrs
      rw [hl] at hv
      have : a.eval x = .slice none 0 0 := by generalize a.eval x = u at hv; cases hv; rfl
      exact .inl ⟨hrs.symm, none, 0, this⟩
    · rcases gen hrs with ⟨g1, b, c, g2⟩ | ⟨g, off, c, news, g1, g2, g3, g4⟩
      · exact .inl ⟨g1, b, c, g2⟩
      · rcases Nat.eq_zero_or_pos rs.length with hz0 | hz0
        · rw [hz0] at g1
          exact .inl ⟨List.eq_nil_of_length_eq_zero hz0, _, _, g1⟩
        · exact .inr ⟨hz0, g, off, c, news, g1, g2, g3, g4⟩
  refine app_core ho ht hb hs he hi (fun rs hrs => ?_) h
  rcases src rs hrs with ⟨rfl, b, c, hux⟩ | ⟨hpos, g, off, c, news, hux, n1, n2, n3⟩
  · exact .inl ⟨rfl, fun base len cap hle => by rw [hux]; exact run_append_empty w hu hsz hle⟩
  · refine .inr ⟨hpos, news, n1, fun i z hi1 hz1 => ?_⟩
    rw [h1] at hi1
    cases hi1
    have hnl : news.toList.length = rs.length * i0.size := by rw [h2, ← n1.1]; exact Array.length_toList
    rw [hux]
    exact ⟨fun k1 k2 => run_append_nil (P := P) w t o.type q i0 z hu h1 hz1 ⟨g, off, none⟩ rs.length c news.toList hnl n2 hpos (by omega) k2,
      fun g0 sLen sCap cur c3 hroom hfit => run_append_room (P := P) w t o.type q i0 hu h1 g0 sLen sCap cur c3 ⟨g, off, none⟩ rs.length c news.toList hnl n2 n3 hroom hfit,
      fun b sLen sCap olds ho holds hg k1 k2 => run_append_grow (P := P) w t o.type q i0 z hu h1 hz1 b sLen sCap olds ho holds ⟨g, off, none⟩ rs.length c news.toList hnl n2 hg k1 k2⟩
open Go.Lib in
theorem str_cells (s : ByteArray) : (strCells s).length = s.data.toList.length := by simp [strCells]
open Go.Lib in
theorem str_get {s : ByteArray} {l : List UInt8} (h : s.data.toList = l) (j : Nat) (y : UInt8) (hj : l[j]? = some y) : (strCells s)[j]? = some (.int .u8 y.toNat) := by
  subst h
  simp only [strCells, List.getElem?_map, hj, Option.map_some]
open Go.Lib in
theorem str_rr {ρ : Place} {S : Store} {w : World} {s : ByteArray} {l : List UInt8} (h : s.data.toList = l) : RR ρ S w 1 (strRows l) (strCells s).toArray := by
  refine ⟨by simp [strRows, str_cells, h], fun i r hr => ?_, fun i r hr j v hj => ?_⟩
  · simp only [strRows, List.getElem?_map, Option.map_eq_some_iff] at hr
    obtain ⟨b, _, rfl⟩ := hr
    rfl
  · simp only [strRows, List.getElem?_map, Option.map_eq_some_iff] at hr
    obtain ⟨b, hb, rfl⟩ := hr
    cases j with
    | succ j => simp at hj
    | zero =>
      simp at hj
      subst hj
      refine ⟨.int .u8 b.toNat, ?_, .int, rfl⟩
      simp only [Nat.mul_one, Nat.add_zero, List.getElem?_toArray]
      exact str_get h i b hb
open Go.Lib in
theorem appS_sound {o : Oper} {t t2 q : TypeId} {zero : List V} {s x : Operand} {s' x' : Opd} {ρ : Place} {S : Store} {w : World} {e : Nat → V} {a : Act} {K : V → Store → Prop} (ho : o.op = .call { callee := .builtin .append, args := #[s, x], argTypes := #[t, t2] })
    (ht : rowT P t = some (q, 1, zero)) (ht2 : P.underlying t2 = some .string) (hb : bytesOk P q = true) (hs : opd s = some s') (hx : opd x = some x') (he : Slots ρ S w e a) (hi : Inv ρ S w) (h : appK q 1 (ev e s') (srcS (ev e x')) S K) : StmPost P o a ρ S w K := by
  obtain ⟨hu, i0, z0, h1, h2, h3, h4, h5, h6⟩ := rowT_some ht
  refine app_core ho ht hb hs he hi (fun rs hrs => ?_) h
  have hv := opd_rel he hx
  unfold srcS at hrs
  split at hrs
  · rename_i l hl
    simp only [Option.some.injEq, Prod.mk.injEq, true_and] at hrs
    subst hrs
    rw [hl] at hv
    obtain ⟨str, hux, hsl, hsm⟩ := hv.str_inv
    have hlen : str.size = l.length := by rw [← hsl, Array.length_toList]; rfl
    rcases Nat.eq_zero_or_pos l.length with h0 | hpos
    · refine .inl ⟨by simp [strRows, List.eq_nil_of_length_eq_zero h0], fun base len cap hle => ?_⟩
      have hf := run_firstCells_string (P := P) w i0.size str
      have hc0 : strCells str = [] := by rw [strCells, hsl, List.eq_nil_of_length_eq_zero h0]; rfl
      rw [hlen, h0, hc0] at hf
      rw [hux]
      cases base <;> simp [Builtin.append_, run_underlying hu, run_underlying ht2, Go.sizeOf, typeInfo, h1, Builtin.lenOf, hlen, h0, hle, hf, storeCells]
    · refine .inr ⟨by simpa [strRows] using hpos, (strCells str).toArray, str_rr hsl, fun i z hi1 hz1 => ?_⟩
      rw [h1] at hi1
      cases hi1
      have hn : (strRows l).length = str.size := by simp [strRows, hlen]
      rw [hux, hn, List.toList_toArray]
      refine ⟨fun k1 k2 => ?_, fun g sLen sCap cur c3 hroom hfit => ?_, fun b sLen sCap olds ho holds hg k1 k2 => ?_⟩
      · have hn' : str.size ≠ 0 := by omega
        have h63' : ¬ (9223372036854775807 < (str.size : Int)) := by omega
        have h48' : ¬ (281474976710656 < Builtin.nextslicecap str.size 0 * i0.bytes) := by rw [nextslicecap_zero (by omega)]; omega
        have hf := run_firstCells_string (P := P) w.drew i0.size str
        simp [Builtin.append_, run_underlying hu, run_underlying ht2, sizeOf, typeInfo, zeroValue, h1, hz1, Builtin.lenOf, hn', h63', h48', Question.forced, run_firstCells_none, hf, newRow, grownCap]
      · have := run_append_room_string (P := P) w t t2 o.type q i0 hu ht2 h1 h2 g sLen sCap cur c3 str hroom (by rw [h2, strCells_length] at hfit; omega)
        rw [this, h2, strCells_length, Nat.mul_one]
      · exact run_append_grow_string (P := P) w t t2 o.type q i0 z hu ht2 h1 hz1 b sLen sCap olds ho holds str hg k1 k2
  · cases hrs
theorem mk_sound {o : Oper} {t q : TypeId} {sz : Nat} {zero : List V} {l c : Operand} {l' c' : Opd} {ρ : Place} {S : Store} {w : World} {e : Nat → V} {a : Act} {K : V → Store → Prop} (ho : o.op = .makeSlice t l c)
    (ht : rowT P t = some (q, sz, zero)) (hb : bytesOk P q = true) (hl : opd l = some l') (hc : opd c = some c') (he : Slots ρ S w e a) (hi : Inv ρ S w) (h : mkK q sz zero (ev e l') (ev e c') S K) : StmPost P o a ρ S w K := by
  obtain ⟨hu, i, z, h1, h2, h3, h4, h5, h6⟩ := rowT_some ht
  have hbytes : i.bytes ≤ 32768 := by simpa [bytesOk, h1] using hb
  simp only [Option.bind_eq_some_iff] at h4
  obtain ⟨zv, z1, z2⟩ := h4
  have hz0 : CR ρ S w zero z.cells := (V.ofVal_rel z1 false).toCR z2
  unfold mkK at h
  split at h
  · rename_i k n k' m hln hcm
    obtain ⟨n0, n1, n2, hK⟩ := h
    have e1 := opd_rel he hl
    have e2 := opd_rel he hc
    rw [hln] at e1
    rw [hcm] at e2
    have e1 := e1.int_inv
    have e2 := e2.int_inv
    unfold roomA at n2
    have hbm : (i.bytes : Int) * m ≤ 281474976710656 := by
      have h7 : (i.bytes : Int) ≤ 32768 := by omega
      calc (i.bytes : Int) * m ≤ 32768 * 4294967296 := Int.mul_le_mul h7 (by omega) (by omega) (by omega)
        _ ≤ 281474976710656 := by decide
    have hr := run_make (P := P) w t q i z hu h1 h3 k k' n m n0 n1 hbm (by omega)
    have hrun : (execOp a.eval o).run P w = .ok (.value (.slice (some ⟨w.heap.size, 0, none⟩) n.toNat m.toNat)) (w.alloc (.cells (madeCells z.cells (m.toNat * i.size)) q)) := by
      simp [execOp, ho, e1, e2, hr]
    have hcs : z.cells.size = sz := by rw [hz0.1, h5]
    have hrr : RRH ρ S w sz (zrows zero n.toNat) (madeCells z.cells (m.toNat * i.size)) := by
      have h8 := (RR.zero (n := m.toNat) hz0 h5).head
      refine ⟨fun j r hj => ?_, fun j r hj x y hx => ?_⟩
      · simp only [zrows, List.getElem?_replicate] at hj
        split at hj
        · simp only [Option.some.injEq] at hj; rw [← hj]; exact h5
        · cases hj
      · simp only [zrows, List.getElem?_replicate] at hj
        split at hj
        · rename_i hjn
          have h9 := h8.2 j r (by simp only [zrows, List.getElem?_replicate]; rw [if_pos (by omega)]; exact hj) x y hx
          rw [h2]
          exact h9
        · cases hj
    obtain ⟨f1, f2, f3⟩ := alloc_facts w (madeCells z.cells (m.toNat * i.size)) q
    obtain ⟨k1, k2⟩ := push_obj (ver := 0) (tot := m.toNat) (rows := zrows zero n.toNat) hi rfl f1 rfl ⟨rfl, by first | exact Nat.le_refl _ | exact Nat.le_succ _ | exact Nat.zero_le _⟩ rfl f2 f3 (by simp [zrows]; omega) (by unfold maxLen; omega) (by rw [size_madeCells, h2]) hrr
    exact post_value hrun (msl_new (by simp [upd]) (by simp [zrows]) (by omega)) k1 k2 hK
  · cases h
theorem nilD_sound {o : Oper} {op : BinOp} {t t' : TypeId} {x y z : Operand} {z' : Opd} {neg : Bool} {ρ : Place} {S : Store} {w : World} {e : Nat → V} {a : Act} {K : V → Store → Prop} (ho : o.op = .binOp op t x y t') (ht : nilType P 0 t) (he : Slots ρ S w e a) (hi : Inv ρ S w)
    (hop : op = (if neg then .neq else .eql)) (hz : opd z = some z') (hxy : x = .const (nilOf 0) ∧ y = z ∨ y = .const (nilOf 0) ∧ x = z) (h : nilDK neg (ev e z') S K) : StmPost P o a ρ S w K := by
  have key : ∀ b, uNil 0 (a.eval z) b → K (.bool (if neg then !b else b)) S → StmPost P o a ρ S w K := by
    intro b hb hk next Q hn
    obtain ⟨u, w', hr, h1, h2, h3⟩ := sound_nilU (P := P) ho ht hi hop hxy (Nat.zero_le _) hb
    unfold Oper.wp
    rw [hr]
    exact hn ρ S w' _ u h1 h3 h2 hk
  have hv := opd_rel he hz
  unfold nilDK at h
  split at h
  · rename_i sz hsl
    rw [hsl] at hv
    have : ∃ p n c, a.eval z = .slice p n c := by
      generalize a.eval z = u at hv
      cases hv <;> exact ⟨_, _, _, rfl⟩
    obtain ⟨p, n, c, hu⟩ := this
    refine key p.isNone ⟨p, n, c, hu, rfl⟩ ?_
    cases neg <;> cases p.isNone <;> simp only [if_true, Bool.false_eq_true, if_false, Bool.not_true, Bool.not_false] <;> first | exact h.1 | exact h.2
  · rename_i id ver off hsl
    rw [hsl] at hv
    obtain ⟨h0, h⟩ := h
    have : ∃ p n c, a.eval z = .slice p n c := by
      obtain ⟨⟨t', sz, rows⟩, hs⟩ := Option.isSome_iff_exists.1 h0
      obtain ⟨_, hk⟩ := hv.msl_inv hs
      rcases hk with ⟨_, hu, _⟩ | ⟨g, tot, _, _, hu, _⟩ | ⟨_, _, p, hu⟩ <;> exact ⟨_, _, _, hu⟩
    obtain ⟨p, n, c, hu⟩ := this
    refine key p.isNone ⟨p, n, c, hu, rfl⟩ ?_
    cases neg <;> cases p.isNone <;> simp only [if_true, Bool.false_eq_true, if_false, Bool.not_true, Bool.not_false] <;> first | exact h.1 | exact h.2
  · split at h
    · rename_i b hb
      exact key b (uNil_of hv hb) h
    · cases h
theorem noEsc_run {f : FuncId} (h : isNoEsc P f = true) (x : Value) (w : World) : (callFunc f #[x]).run P w = .ok (.value x) w := by
  unfold isNoEsc at h
  split at h
  · rename_i fn hf
    simp only [Bool.and_eq_true, beq_iff_eq] at h
    obtain ⟨⟨h1, h2⟩, h3⟩ := h
    have a1 : Extern.allGenericRows.lookup "internal/abi.NoEscape" = none := by kernel_rfl
    have a2 : Extern.allTypedRows.lookup "internal/abi.NoEscape" = none := by kernel_rfl
    have a3 : Extern.allRows.lookup "internal/abi.NoEscape" = some Extern.AbiNoEscape.same := by kernel_rfl
    have b1 : Extern.allNextRows.lookup "internal/abi.NoEscape" = none := by kernel_rfl
    have b2 : Extern.allNextRows.lookup "" = none := by kernel_rfl
    have hn : Extern.findNext fn = none := by simp only [Extern.findNext, h1, h2, b1, b2]; rfl
    have he : Extern.find fn = some Extern.AbiNoEscape.same := by simp only [Extern.find, h1, a1, a2, a3]; rfl
    rw [run_callFunc_extern hf (by rw [h1]; rfl) h3 hn he, Lib.run_noEscape]
    rfl
  · cases h
theorem clip_sound {o : Oper} {t q : TypeId} {n : Nat} {x h m : Operand} {x' h' m' : Opd} {ρ : Place} {S : Store} {w : World} {e : Nat → V} {a : Act} {K : V → Store → Prop} (ho : o.op = .slice t x none (some h) (some m)) (ht : P.underlying t = some (.slice q)) (hz : sizeT P q = some n)
    (hx : opd x = some x') (hh : opd h = some h') (hm : opd m = some m') (he : Slots ρ S w e a) (hi : Inv ρ S w) (hk : stmA P (.xs (.clip n) [x', h', m']) e S K) : StmPost P o a ρ S w K := by
  have h1 := opd_rel he hx
  have h2 := opd_rel he hh
  have h3 := opd_rel he hm
  simp only [stmA, xstmA, evs, List.map_cons, List.map_nil] at hk
  unfold clipK at hk
  split at hk
  · rename_i b _ c e1 e2 e3
    obtain ⟨rfl, rfl, hK⟩ := hk
    rw [e1] at h1; rw [e2] at h2; rw [e3] at h3
    have hu : a.eval x = .slice none 0 0 := by generalize a.eval x = u at h1; cases h1; rfl
    have hr := run_sl3 ho ht hz hu h2.int_inv h3.int_inv (Int.le_refl _) (Int.le_refl _) (by omega) w
    exact post_value hr (by simpa using VR.nilSl) hi (Ext.refl _ _ _) hK
  · rename_i id ver len _ b _ c e1 e2 e3
    rw [e1] at h1; rw [e2] at h2; rw [e3] at h3
    split at hk
    · rename_i t' sz' rows hobj
      obtain ⟨rfl, c0, c1, c2, hK⟩ := hk
      obtain ⟨hle, m2⟩ := h1.msl_inv hobj
      have hso := obj_some hobj
      have hid := (List.getElem?_eq_some_iff.1 hso).1
      rcases m2 with ⟨m2, hus, hl0, _⟩ | ⟨g0, tot, cap, m2, hus, m3, m4, m5⟩ | ⟨m2, _⟩
      · have hb0 : b = 0 := by omega
        have hc0 : c = 0 := by omega
        subst hb0 hc0
        have hrows : rows = [] := by
          obtain ⟨_, h4⟩ := hi.rows _ _ _ _ _ hso
          rcases h4 with ⟨_, h5⟩ | ⟨g, tot, cur, h5, _⟩
          · exact h5
          · rw [m2] at h5; cases h5
        subst hrows
        obtain ⟨k1, k2⟩ := set_nil hi hso m2
        exact post_value (run_sl3 ho ht hz hus h2.int_inv h3.int_inv (Int.le_refl _) (Int.le_refl _) (by omega) w) (msl_set_nil hid m2) k1 k2 hK
      · simp only [Nat.zero_mul, Nat.zero_add] at hus m3 m5
        obtain ⟨cur, d1, d2, d3, d4, d5⟩ := hi.obj hso m2
        have hrow : ∀ (i : Nat) (r : List V), (rows.take b.toNat)[i]? = some r → rows[i]? = some r := by
          intro i r hir
          rw [List.getElem?_take] at hir
          split at hir
          · exact hir
          · cases hir
        obtain ⟨k1, k2⟩ := set_obj (w' := w) (ver' := ver + 1) (g' := g0) (tot' := tot) (rows' := rows.take b.toNat) (cur := cur) hi hso m2 (.inl ⟨rfl, rfl, fun hv => by omega⟩) (by omega) (Nat.le_refl _) rfl ⟨rfl, by first | exact Nat.le_refl _ | exact Nat.zero_le _⟩ rfl (fun _ _ _ => rfl) d3 (by simp; omega) d2 d4
          ⟨fun i r hr => d5.1 i r (hrow i r hr), fun i r hr j y hj => d5.2 i r (hrow i r hr) j y hj⟩
        exact post_value (run_sl3 ho ht hz hus h2.int_inv h3.int_inv c0 c1 (by omega) w) (msl_set (g := g0) (tot := tot) (cap := c.toNat) hid (by simp [upd]) (by rw [List.length_take]; omega) (by omega) (by omega)) k1 k2 hK
      · exact absurd m2 (Nat.lt_irrefl 0)
    · cases hk
  · cases hk
theorem kill_obj {ρ : Place} {S : Store} {w : World} (hi : Inv ρ S w) {w' : World} {id ver g tot sz : Nat} {t : TypeId} {rows : List (List V)} (hs : S[id]? = some ⟨ver, some (.arr t sz rows)⟩) (hr : ρ id = some (g, tot))
    (hsz : w'.heap.size = w.heap.size) (hos : w'.os = w.os) (htp : w'.tape = w.tape ∧ w.drawn ≤ w'.drawn) (hout : w'.output = w.output) (hold : ∀ k, k ≠ g → w'.heap[k]? = w.heap[k]?) :
    Inv ρ (S.set id ⟨ver + 1, none⟩) w' ∧ Ext ρ S w ρ (S.set id ⟨ver + 1, none⟩) w' := by
  have hid := (List.getElem?_eq_some_iff.1 hs).1
  have low : ∀ (i : Nat) (o : Obj), (S.set id ⟨ver + 1, none⟩)[i]? = some o → i ≠ id → S[i]? = some o := fun i o ho hne => by rwa [List.getElem?_set_ne (Ne.symm hne)] at ho
  have hx : Ext ρ S w ρ (S.set id ⟨ver + 1, none⟩) w' := by
    refine ⟨hos, ⟨htp.1, by first | exact htp.2 | exact fun _ => htp.2⟩, hout, by omega, fun k hk => ⟨⟨by have := hk.1; omega, fun i o c q x ho hst hri => ?_⟩, hold k fun h => hk.2 id _ _ g tot hs rfl hr h.symm⟩, by simp, fun i o o' ho ho' => ?_⟩
    · by_cases h1 : i = id
      · subst h1
        rw [List.getElem?_set_self hid] at ho
        cases ho
        cases hst
      · exact hk.2 i o c q x (low i o ho h1) hst hri
    · by_cases h1 : i = id
      · subst h1
        rw [List.getElem?_set_self hid] at ho'
        rw [hs] at ho
        cases ho
        cases ho'
        exact ⟨Nat.le_succ _, fun hv => by simp at hv⟩
      · rw [List.getElem?_set_ne (Ne.symm h1), ho] at ho'
        cases ho'
        exact ⟨Nat.le_refl _, fun _ c hc => ⟨c, hc, Cont.like_refl c, rfl⟩⟩
  refine ⟨⟨fun i v e s rs hi' => ?_, fun i j o p c d q x y ho hp hc hd hri hrj => ?_, maps_of hi hx (fun i v rs hs' => ?_) (fun i v rs q hs' hq => ?_), tab_of hi hx⟩, hx⟩
  · by_cases h1 : i = id
    · subst h1
      rw [List.getElem?_set_self hid] at hi'
      cases hi'
    · have hi2 := low i _ hi' h1
      obtain ⟨h2, h3⟩ := hi.rows i v e s rs hi2
      refine ⟨h2, ?_⟩
      rcases h3 with h3 | ⟨g2, tot2, cur2, a, b, c, d, f, k⟩
      · exact .inl h3
      · refine .inr ⟨g2, tot2, cur2, a, b, c, ?_, f, fun i r hir j y hj => ?_⟩
        · rw [hold g2 (fun hh => h1 (hi.inj i id _ _ _ _ g tot2 tot hi2 hs rfl rfl (by rw [← hh]; exact a) hr))]
          exact d
        · obtain ⟨u, hu, hv, h4⟩ := k i r hir j y hj
          exact ⟨u, hu, hv.ext hx, h4⟩
  · have dead : ∀ (i : Nat) (o : Obj) (c : Cont), (S.set id ⟨ver + 1, none⟩)[i]? = some o → o.st = some c → i ≠ id := by
      rintro i o c ho hc rfl
      rw [List.getElem?_set_self hid] at ho
      cases ho
      cases hc
    exact hi.inj i j o p c d q x y (low i o ho (dead i o c ho hc)) (low j p hp (dead j p d hp hd)) hc hd hri hrj
  · by_cases h1 : i = id
    · subst h1
      rw [List.getElem?_set_self hid] at hs'
      cases hs'
    · exact ⟨low i _ hs' h1, rfl⟩
  · by_cases h1 : i = id
    · subst h1
      rw [List.getElem?_set_self hid] at hs'
      cases hs'
    · exact hold q (fun hh => h1 (hi.inj i id _ _ _ _ g 0 tot (low i _ hs' h1) hs rfl rfl (by rw [← hh]; exact hq) hr))
theorem uStr_sound {o : Oper} {c : Call} {x l : Operand} {x' l' : Opd} {pt it q : TypeId} {ρ : Place} {S : Store} {w : World} {e : Nat → V} {a : Act} {K : V → Store → Prop} (ho : o.op = .call c) (hc : c.callee = .builtin .unsafeString) (ha : c.args.toList = [x, l])
    (hts : c.argTypes.toList = [pt, it]) (hp : P.underlying pt = some (.pointer q)) (h1 : P.cellsOf q = 1) (hx : opd x = some x') (hl : opd l = some l') (he : Slots ρ S w e a) (hi : Inv ρ S w) (h : stmA P (.xs (.uStr q) [x', l']) e S K) : StmPost P o a ρ S w K := by
  have ha' : c.args = #[x, l] := by rw [← ha]
  have hts' : c.argTypes = #[pt, it] := by rw [← hts]
  have r1 := opd_rel he hx
  have r2 := opd_rel he hl
  simp only [stmA, evs, List.map_cons, List.map_nil, xstmA, uStrK] at h
  split at h
  · rename_i n e1 e2
    obtain ⟨rfl, hK⟩ := h
    rw [e1] at r1
    rw [e2] at r2
    have hux : a.eval x = .pointer none := by generalize a.eval x = u at r1; cases r1; rfl
    have hul := r2.int_inv
    have hrun : (execOp a.eval o).run P w = .ok (.value (.string .empty)) w := by
      simp [execOp, ho, hc, ha', hts', hux, hul, resolve, invoke, builtin, Lib.run_unsafeString_none]
    exact post_value hrun (.str rfl (by unfold maxLen; exact Nat.zero_le _)) hi (Ext.refl _ _ _) hK
  · rename_i id ver row off n e1 e2
    split at h
    · rename_i t sz rows hso
      obtain ⟨rfl, rfl, rfl, rfl, bs, rfl, rfl, hne, hK⟩ := h
      rw [e1] at r1
      rw [e2] at r2
      have hul := r2.int_inv
      obtain ⟨g, tot, p1, p2⟩ := r1.ptr_inv hso
      obtain ⟨cur, b1, b2, b3, b4, b5, b6⟩ := owned_block hi hso p1
      have hlen : (strRows bs).length = bs.length := by simp [strRows]
      have hrun0 := fun ty => Lib.run_unsafeString_row (P := P) w pt it ty t hp h1 g cur.size (by simp [World.shape?, b1]) bs hne (by omega) (by unfold maxLen at b4; omega) (by
        intro j y hj
        have hr : (strRows bs)[j]? = some [.int .u8 y.toNat] := by simp [strRows, hj]
        obtain ⟨u, c1, c2, _⟩ := b6 j _ hr 0 (.int .u8 y.toNat) rfl
        have c2 := c2.int_inv
        subst c2
        simp only [Nat.mul_one, Nat.add_zero] at c1
        by_cases hj0 : j = 0 <;> simp [World.cell?, Addr.add, b1, hj0] <;> first | (subst hj0; exact c1) | exact c1)
      have hrun : (execOp a.eval o).run P w = .ok (.value (.string ⟨bs.toArray⟩)) (w.freeze ⟨g, 0, none⟩ bs.length) := by
        have p2' : a.eval x = .pointer (some ⟨g, 0, none⟩) := by rw [p2, Nat.zero_mul]
        simp [execOp, ho, hc, ha', hts', p2', hul, resolve, invoke, builtin, hrun0]
      have hn0 : bs.length ≠ 0 := by simpa using hne
      have hos : (w.freeze ⟨g, 0, none⟩ bs.length).os = w.os ∧ ((w.freeze ⟨g, 0, none⟩ bs.length).tape = w.tape ∧ w.drawn ≤ (w.freeze ⟨g, 0, none⟩ bs.length).drawn) ∧ (w.freeze ⟨g, 0, none⟩ bs.length).output = w.output ∧ (w.freeze ⟨g, 0, none⟩ bs.length).heap.size = w.heap.size ∧ ∀ k, k ≠ g → (w.freeze ⟨g, 0, none⟩ bs.length).heap[k]? = w.heap[k]? := by
        unfold World.freeze
        rw [if_neg hn0]
        refine ⟨rfl, ⟨rfl, by first | exact Nat.le_refl _ | exact Nat.zero_le _⟩, rfl, by simp, fun k hk => ?_⟩
        simp only [Array.getElem?_modify]
        rw [if_neg (fun h => hk h.symm)]
      obtain ⟨k1, k2⟩ := kill_obj (w' := w.freeze ⟨g, 0, none⟩ bs.length) hi (obj_some hso) p1 hos.2.2.2.1 hos.1 hos.2.1 hos.2.2.1 hos.2.2.2.2
      exact post_value hrun (.str (by simp) (by show bs.toArray.size ≤ maxLen; simp; omega)) k1 k2 hK
    · exact h.elim
  · exact h.elim
theorem putV_none {k v : V} : ∀ {rows : List (V × V)}, (∀ (i : Nat) (p : V × V), rows[i]? = some p → eqKV k p.1 = false) → putV k v rows = rows ++ [(k, v)]
  | [], _ => rfl
  | p :: r, h => by
    rw [putV, h 0 p rfl, putV_none fun i q hq => h (i + 1) q (by simpa using hq)]
    simp
theorem putV_at {k v : V} : ∀ {rows : List (V × V)} {i : Nat} {p : V × V}, rows[i]? = some p → eqKV k p.1 = true → (∀ (j : Nat) (q : V × V), j < i → rows[j]? = some q → eqKV k q.1 = false) → putV k v rows = rows.set i (k, v)
  | [], i, p, h, _, _ => by simp at h
  | x :: r, 0, p, h, h2, _ => by
    simp at h
    subst h
    rw [putV, h2]
    simp
  | x :: r, i + 1, p, h, h2, h3 => by
    rw [putV, h3 0 x (by omega) rfl, putV_at (by simpa using h) h2 fun j q hj hq => h3 (j + 1) q (by omega) (by simpa using hq)]
    simp
theorem delV_none {k : V} : ∀ {rows : List (V × V)}, (∀ (i : Nat) (p : V × V), rows[i]? = some p → eqKV k p.1 = false) → delV k rows = rows
  | [], _ => rfl
  | p :: r, h => by
    rw [delV, h 0 p rfl, delV_none fun i q hq => h (i + 1) q (by simpa using hq)]
    simp
theorem delV_at {k : V} : ∀ {rows : List (V × V)} {i : Nat} {p : V × V}, rows[i]? = some p → eqKV k p.1 = true → (∀ (j : Nat) (q : V × V), j < i → rows[j]? = some q → eqKV k q.1 = false) → delV k rows = rows.eraseIdx i
  | [], i, p, h, _, _ => by simp at h
  | x :: r, 0, p, h, h2, _ => by
    simp at h
    subst h
    rw [delV, h2]
    simp
  | x :: r, i + 1, p, h, h2, h3 => by
    rw [delV, h3 0 x (by omega) rfl, delV_at (by simpa using h) h2 fun j q hj hq => h3 (j + 1) q (by omega) (by simpa using hq)]
    simp
section
variable {o : Oper} {ρ : Place} {S : Store} {w : World} {e : Nat → V} {a : Act} {K : V → Store → Prop} {t kt et : TypeId} {kd : KD}
theorem post_skip {v : V} {w' : World} {ρ' : Place} {S' : Store} (hr : (execOp a.eval o).run P w = .ok .skip w') (h1 : VR ρ' S' w' false v Go.undef) (h2 : Inv ρ' S' w') (h3 : Ext ρ S w ρ' S' w') (h4 : K v S') : StmPost P o a ρ S w K := by
  intro next Q hn
  unfold Oper.wp
  rw [hr]
  exact hn ρ' S' w' v _ h1 h2 h3 h4
theorem map_set (hi : Inv ρ S w) {id ver g : Nat} {rows rows' : List (V × V)} {x : MX} {es es' : Array MapEntry} {ck ck' : Nat} (hs : S.mp? id ver = some (kd, rows, x)) (hx : x = .free) (hg : ρ id = some (g, 0)) (hb : w.heap[g]? = some (.map es ck)) (hm : MR ρ S w ⟨kd, rows', .free⟩ es') (hst : Stp es' ck') :
    Inv ρ (S.set id ⟨ver, some (.mp ⟨kd, rows', .free⟩)⟩) { w with heap := w.heap.setIfInBounds g (.map es' ck') } ∧ Ext ρ S w ρ (S.set id ⟨ver, some (.mp ⟨kd, rows', .free⟩)⟩) { w with heap := w.heap.setIfInBounds g (.map es' ck') } := by
  obtain ⟨h1, h2⟩ := Go.MapKept.heap_set (w := w) (o' := .map es' ck') hb
  subst hx
  exact set_map (rows := ⟨kd, rows, .free⟩) (rows' := ⟨kd, rows', .free⟩) hi (fun i h => by cases h) (mp_some hs) hg (by simp) rfl ⟨rfl, by first | exact Nat.le_refl _ | exact Nat.le_succ _ | exact Nat.zero_le _⟩ rfl (fun k hk => h2 k hk) ⟨rfl, rfl⟩ fun hx => ⟨es', ck', h1, hm.ext hx, hst⟩
theorem Stp.push {es : Array MapEntry} {ck : Nat} (h : Stp es ck) {k v : Value} : Stp (es.push { key := k, val := v, born := ck }) (ck + 1) := by
  obtain ⟨h1, h2⟩ := h
  refine ⟨fun x hx => ?_, ?_⟩
  · simp only [Array.toList_push, List.mem_append, List.mem_singleton] at hx
    rcases hx with hx | rfl
    · have := h1 x hx; omega
    · exact Nat.lt_succ_self _
  · simp only [Array.toList_push, List.map_append, List.map_cons, List.map_nil]
    refine List.nodup_append.2 ⟨h2, by simp, fun a ha b hb => ?_⟩
    simp only [List.mem_singleton] at hb
    subst hb
    obtain ⟨x, hx, rfl⟩ := List.mem_map.1 ha
    have := h1 x hx
    omega
theorem Stp.modify {es : Array MapEntry} {ck : Nat} (h : Stp es ck) (i : Nat) (f : MapEntry → MapEntry) (hf : ∀ e, (f e).born = e.born) : Stp (es.modify i f) ck := by
  have hm : (es.modify i f).toList.map (·.born) = es.toList.map (·.born) := by
    apply List.ext_getElem?
    intro j
    simp only [List.getElem?_map, Array.getElem?_toList, Array.getElem?_modify]
    split
    · cases es[j]? <;> simp [hf]
    · rfl
  refine ⟨fun x hx => ?_, by rw [hm]; exact h.2⟩
  have : x.born ∈ (es.modify i f).toList.map (·.born) := List.mem_map_of_mem hx
  rw [hm] at this
  obtain ⟨y, hy, hyb⟩ := List.mem_map.1 this
  rw [← hyb]
  exact h.1 y hy
theorem Stp.erase {es : Array MapEntry} {ck : Nat} (h : Stp es ck) (i : Nat) : Stp (es.eraseIdxIfInBounds i) ck := by
  have hm : (es.eraseIdxIfInBounds i).toList.Sublist es.toList := by
    by_cases hi : i < es.size
    · rw [show es.eraseIdxIfInBounds i = es.eraseIdx i hi by simp [Array.eraseIdxIfInBounds, hi], Array.toList_eraseIdx]
      exact List.eraseIdx_sublist _ _
    · rw [show es.eraseIdxIfInBounds i = es by simp [Array.eraseIdxIfInBounds, hi]]
      exact List.Sublist.refl _
  exact ⟨fun x hx => h.1 x (hm.subset hx), h.2.sublist (hm.map _)⟩
theorem Stp.nil {ck : Nat} : Stp #[] ck := ⟨by simp, by simp⟩
theorem mkM_sound {r : Option Operand} {r' : Option Opd} (ho : o.op = .makeMap t r) (ht : P.underlying t = some (.map kt et)) (hr : oopd r = some r') (he : Slots ρ S w e a) (hi : Inv ρ S w) (h : stmA P (.xs (.mkM kd) r'.toList) e S K) : StmPost P o a ρ S w K := by
  have hK : mkMK kd S K ∧ ((Instr.makeMap t (r.map a.eval)).run P w = .ok (.map (some w.heap.size)) (w.alloc (.map #[] 0))) := by
    cases r with
    | none =>
      simp only [oopd, Option.some.injEq] at hr
      subst hr
      simp only [stmA, Option.toList, evs, List.map_nil, xstmA] at h
      refine ⟨h, ?_⟩
      simp [Instr.makeMap]
    | some x =>
      simp only [oopd, Option.map_eq_some_iff] at hr
      obtain ⟨x', hx, rfl⟩ := hr
      have h1 := opd_rel he hx
      simp only [stmA, Option.toList, evs, List.map_cons, List.map_nil, xstmA] at h
      split at h
      · simp at *
      · simp at *
      · rename_i heq
        simp only [List.cons.injEq, and_true] at heq
        rw [heq] at h1
        refine ⟨by first | exact h | (simp only [XStm.mkM.injEq] at *; simp_all), ?_⟩
        simp [Instr.makeMap, run_underlying ht, h1.int_inv, asInt, asIntOf]
      all_goals simp_all
  obtain ⟨hK, hrun⟩ := hK
  obtain ⟨k1, k2⟩ := push_map (ver := 0) (rows := ⟨kd, [], .free⟩) hi (fun i h => by cases h) rfl (w' := w.alloc (.map #[] 0)) (by simp) rfl ⟨rfl, by first | exact Nat.le_refl _ | exact Nat.le_succ _ | exact Nat.zero_le _⟩ rfl (fun k hk => Go.heap_alloc_old w _ hk) fun _ => ⟨#[], 0, Go.heap_alloc_new w _, ⟨rfl, by simp, by simp⟩, Stp.nil⟩
  refine post_value (u := .map (some w.heap.size)) ?_ (.mapv (by simp) (fun o ho => ?_) (fun rows hs => ⟨w.heap.size, by simp [upd], ?_⟩) rfl) k1 k2 hK
  · simp only [execOp, ho, Sem.run_bind, hrun, Result.andThen_ok, Sem.run_pure]
  · rw [List.getElem?_append_right (Nat.le_refl _)] at ho
    simp at ho
    rw [← ho]
    exact Nat.le_refl _
  · rw [List.getElem?_append_right (Nat.le_refl _)] at hs
    simp at hs
    subst hs
    rfl
theorem mu_sound {m k v : Operand} {m' k' v' : Opd} (ho : o.op = .mapUpdate t m k v) (ht : P.underlying t = some (.map kt et)) (hkd : kdOf P kt = some kd) (hm : opd m = some m') (hk : opd k = some k') (hv : opd v = some v') (he : Slots ρ S w e a) (hi : Inv ρ S w)
    (h : stmA P (.xs (.mu kd) [m', k', v']) e S K) : StmPost P o a ρ S w K := by
  have h1 := opd_rel he hm
  have h2 := opd_rel he hk
  have h3 := opd_rel he hv
  simp only [stmA, evs, List.map_cons, List.map_nil, xstmA, muK] at h
  split at h
  · rename_i id ver e1
    split at h
    · rename_i kd' rows x hs
      obtain ⟨rfl, rfl, hkv, hK⟩ := h
      rw [e1] at h1
      obtain ⟨g, hg, hu⟩ := h1.mapv_inv hs rfl
      obtain ⟨es, ck, hb, hmr, hst, hf⟩ := map_find (P := P) hi hs rfl hg hkd hkv h2
      have hkm := KM.of hkv h2
      obtain ⟨c1, c2, c3⟩ := hmr
      rcases hf with ⟨f1, f2, f3⟩ | ⟨i, p, en, f1, f2, f3, f4, f5, f6, f7, f8⟩
      · rw [putV_none f3] at hK
        obtain ⟨q1, q2⟩ := map_set (ck' := ck + 1) (es' := es.push { key := a.eval k, val := a.eval v, born := ck }) (rows' := rows ++ [(ev e k', ev e v')]) hi hs rfl hg hb (hst := hst.push) ⟨by simp at c1; simp [c1], fun p hp => by
            rcases List.mem_append.1 hp with hp | hp
            · exact c2 p hp
            · simp at hp; subst hp; exact hkv, fun i kk vv hik => by
            simp only at c1 hik
            by_cases hlt : i < rows.length
            · rw [List.getElem?_append_left hlt] at hik
              obtain ⟨en, a1, a2, a3⟩ := c3 i kk vv hik
              exact ⟨en, by rw [Array.getElem?_push, if_neg (by omega)]; exact a1, a2, a3⟩
            · rw [List.getElem?_append_right (by omega)] at hik
              have hl := (List.getElem?_eq_some_iff.1 hik).1
              simp at hl
              have hi0 : i = rows.length := by omega
              subst hi0
              simp at hik
              obtain ⟨rfl, rfl⟩ := hik
              exact ⟨_, by rw [Array.getElem?_push, if_pos c1.symm], h2, h3⟩⟩
        refine post_skip ?_ .skipped q1 q2 hK
        simp only [execOp, ho, Instr.mapUpdate, Sem.run_bind, run_underlying ht, Result.andThen_ok, hu, Go.MapKept.run_getObj_map hb, check_run hkd hkm, f1, Go.MapKept.run_setObj_map _ hb, Sem.run_pure]
      · rw [putV_at f4 f5 f8] at hK
        have hmod : es.modify i (fun e' => { e' with key := a.eval k, val := a.eval v }) = es.setIfInBounds i { en with key := a.eval k, val := a.eval v } := by
          apply Array.ext_getElem?
          intro j
          rw [Array.getElem?_modify, Array.getElem?_setIfInBounds]
          by_cases hij : i = j
          · subst hij
            have hlt := (Array.getElem?_eq_some_iff.1 f2).1
            rw [if_pos rfl, if_pos rfl, f2]
            simp [hlt]
          · simp [hij]
        obtain ⟨q1, q2⟩ := map_set (ck' := ck) (es' := es.modify i fun e' => { e' with key := a.eval k, val := a.eval v }) (rows' := rows.set i (ev e k', ev e v')) hi hs rfl hg hb (hst := hst.modify _ _ fun _ => rfl) ⟨by simp at c1; simp [c1], fun p hp => by
            rcases List.mem_or_eq_of_mem_set hp with hp | rfl
            · exact c2 p hp
            · exact hkv, fun j kk vv hj => by
            simp only at c1 hj
            rw [hmod]
            rw [List.getElem?_set] at hj
            split at hj
            · rename_i hij
              subst hij
              split at hj
              · simp only [Option.some.injEq, Prod.mk.injEq] at hj
                obtain ⟨rfl, rfl⟩ := hj
                exact ⟨_, by rw [Array.getElem?_setIfInBounds_self_of_lt (Array.getElem?_eq_some_iff.1 f2).1], h2, h3⟩
              · cases hj
            · rename_i hij
              obtain ⟨en', a1, a2, a3⟩ := c3 j kk vv hj
              exact ⟨en', by rw [Array.getElem?_setIfInBounds_ne hij]; exact a1, a2, a3⟩⟩
        refine post_skip ?_ .skipped q1 q2 hK
        have hst : (Instr.keyThatStays en.key (a.eval k)).run P w = .ok (a.eval k) w := by rw [f3]; exact stays_run hkm
        simp only [execOp, ho, Instr.mapUpdate, Sem.run_bind, run_underlying ht, Result.andThen_ok, hu, Go.MapKept.run_getObj_map hb, check_run hkd hkm, f1, f2, Option.map_some, Option.getD_some, hst, Go.MapKept.run_setObj_map _ hb, Sem.run_pure]
    · exact h.elim
  · exact h.elim
theorem map_setX (hi : Inv ρ S w) {id ver g : Nat} {rows rows' : List (V × V)} {x x' : MX} {es es' : Array MapEntry} {ck ck' : Nat} (hs : S.mp? id ver = some (kd, rows, x)) (hx : x.isIt = false) (hx' : x'.isIt = false) (hfree : ∀ i, x' ≠ .held i) (hg : ρ id = some (g, 0)) (hb : w.heap[g]? = some (.map es ck)) (hm : MR ρ S w ⟨kd, rows', x'⟩ es') (hst : Stp es' ck') (ho : ∀ j n, x' = .opened j n → ∃ e, es'[j]? = some e ∧ e.born = n) :
    Inv ρ (S.set id ⟨ver, some (.mp ⟨kd, rows', x'⟩)⟩) { w with heap := w.heap.setIfInBounds g (.map es' ck') } ∧ Ext ρ S w ρ (S.set id ⟨ver, some (.mp ⟨kd, rows', x'⟩)⟩) { w with heap := w.heap.setIfInBounds g (.map es' ck') } := by
  obtain ⟨h1, h2⟩ := Go.MapKept.heap_set (w := w) (o' := .map es' ck') hb
  refine set_map (rows := ⟨kd, rows, x⟩) (rows' := ⟨kd, rows', x'⟩) hi hfree (mp_some hs) hg (by simp) rfl ⟨rfl, by first | exact Nat.le_refl _ | exact Nat.le_succ _ | exact Nat.zero_le _⟩ rfl (fun k hk => h2 k hk) ⟨rfl, by rw [hx, hx']⟩ fun hx2 => ?_
  cases x' with
  | free => exact ⟨es', ck', h1, hm.ext hx2, hst⟩
  | held i => exact absurd rfl (hfree i)
  | opened j n => exact ⟨es', ck', h1, hm.ext hx2, hst, ho j n rfl⟩
  | iter _ _ => cases hx'
theorem mEnt_sound {m k : Operand} {m' k' : Opd} {zero : V} (ho : o.op = .mapEntry t m k) (ht : P.underlying t = some (.map kt et)) (hkd : kdOf P kt = some kd) (hz : zeroV P et = some zero) (hm : opd m = some m') (hk : opd k = some k') (he : Slots ρ S w e a) (hi : Inv ρ S w)
    (h : stmA P (.xs (.mEnt kd zero) [m', k']) e S K) : StmPost P o a ρ S w K := by
  have h1 := opd_rel he hm
  have h2 := opd_rel he hk
  obtain ⟨z, hzr, hzv⟩ := zeroV_run hz w
  have hzrel := V.ofVal_rel (ρ := ρ) (S := S) (w := w) hzv false
  simp only [stmA, evs, List.map_cons, List.map_nil, xstmA, mEntK] at h
  split at h
  · rename_i id ver e1
    split at h
    · rename_i kd' rows x hs
      obtain ⟨rfl, rfl, hkv, hK⟩ := h
      rw [e1] at h1
      obtain ⟨g, hg, hu⟩ := h1.mapv_inv hs rfl
      obtain ⟨es, ck, hb, hmr, hst, hf⟩ := map_find (P := P) hi hs rfl hg hkd hkv h2
      have hkm := KM.of hkv h2
      obtain ⟨c1, c2, c3⟩ := hmr
      simp only at c1
      rcases hf with ⟨f1, f2, f3⟩ | ⟨i, p, en, f1, f2, f3, f4, f5, f6, f7, f8⟩
      · rw [f2, putV_none f3] at hK
        simp only [Option.getD_none] at hK
        have hK := hK rows.length ck (ev e k', zero) (by simp) ((eqKV_iff hkv hkv h2 h2).2 rfl) (fun i q hlt hq => by rw [List.getElem?_append_left hlt] at hq; exact f3 i q hq)
        obtain ⟨q1, q2⟩ := map_setX (ck' := ck + 1) (es' := es.push { key := a.eval k, val := z, born := ck }) (rows' := rows ++ [(ev e k', zero)]) (x' := .opened rows.length ck) hi hs rfl rfl (fun i h => by cases h) hg hb (hst := hst.push) ⟨by simp [c1], fun p hp => by
            rcases List.mem_append.1 hp with hp | hp
            · exact c2 p hp
            · simp at hp; subst hp; exact hkv, fun i kk vv hik => by
            simp only at hik
            by_cases hlt : i < rows.length
            · rw [List.getElem?_append_left hlt] at hik
              obtain ⟨en, a1, a2, a3⟩ := c3 i kk vv hik
              exact ⟨en, by rw [Array.getElem?_push, if_neg (by omega)]; exact a1, a2, a3⟩
            · rw [List.getElem?_append_right (by omega)] at hik
              have hl := (List.getElem?_eq_some_iff.1 hik).1
              simp at hl
              have hi0 : i = rows.length := by omega
              subst hi0
              simp at hik
              obtain ⟨rfl, rfl⟩ := hik
              exact ⟨_, by rw [Array.getElem?_push, if_pos c1.symm], h2, hzrel⟩⟩ (fun j n hjn => by
            cases hjn
            exact ⟨{ key := a.eval k, val := z, born := ck }, by rw [Array.getElem?_push, if_pos c1.symm], rfl⟩)
        refine post_value (u := .tuple #[z, .int .i64 ck]) ?_ (.tup' rfl fun j v hj => ?_) q1 q2 hK
        · simp only [execOp, ho, Instr.mapEntry, Sem.run_bind, run_underlying ht, Result.andThen_ok, hu, Go.MapKept.run_getObj_map hb, check_run hkd hkm, f1, hzr, Go.MapKept.run_setObj_map _ hb, Sem.run_pure]
          rfl
        · match j, hj with
          | 0, hj => simp at hj; subst hj; exact ⟨z, rfl, hzrel.ext q2⟩
          | 1, hj => simp at hj; subst hj; exact ⟨_, rfl, .int⟩
          | j + 2, hj => simp at hj
      · rw [f6, putV_at f4 f5 f8] at hK
        simp only [Option.getD_some] at hK
        have hil : i < rows.length := (List.getElem?_eq_some_iff.1 f4).1
        have hK := hK i en.born (ev e k', p.2) (by rw [List.getElem?_set_self hil]) ((eqKV_iff hkv hkv h2 h2).2 rfl) (fun j q hlt hq => by rw [List.getElem?_set_ne (by omega)] at hq; exact f8 j q hlt hq)
        have hmod : es.modify i (fun e' => { e' with key := a.eval k }) = es.setIfInBounds i { en with key := a.eval k } := by
          apply Array.ext_getElem?
          intro j
          rw [Array.getElem?_modify, Array.getElem?_setIfInBounds]
          by_cases hij : i = j
          · subst hij
            have hlt := (Array.getElem?_eq_some_iff.1 f2).1
            rw [if_pos rfl, if_pos rfl, f2]
            simp [hlt]
          · simp [hij]
        obtain ⟨q1, q2⟩ := map_setX (ck' := ck) (es' := es.modify i fun e' => { e' with key := a.eval k }) (rows' := rows.set i (ev e k', p.2)) (x' := .opened i en.born) hi hs rfl rfl (fun i h => by cases h) hg hb (hst := hst.modify _ _ fun _ => rfl) ⟨by simp [c1], fun p hp => by
            rcases List.mem_or_eq_of_mem_set hp with hp | rfl
            · exact c2 p hp
            · exact hkv, fun j kk vv hj => by
            simp only at hj
            rw [hmod]
            rw [List.getElem?_set] at hj
            split at hj
            · rename_i hij
              subst hij
              simp only [hil, if_true, Option.some.injEq, Prod.mk.injEq] at hj
              obtain ⟨rfl, rfl⟩ := hj
              exact ⟨{ en with key := a.eval k }, by rw [Array.getElem?_setIfInBounds_self_of_lt (Array.getElem?_eq_some_iff.1 f2).1], h2, f7⟩
            · rename_i hij
              obtain ⟨en', a1, a2, a3⟩ := c3 j kk vv hj
              exact ⟨en', by rw [Array.getElem?_setIfInBounds_ne hij]; exact a1, a2, a3⟩⟩ (fun j n hjn => by
            cases hjn
            rw [hmod]
            exact ⟨{ en with key := a.eval k }, by rw [Array.getElem?_setIfInBounds_self_of_lt (Array.getElem?_eq_some_iff.1 f2).1], rfl⟩)
        refine post_value (u := .tuple #[en.val, .int .i64 en.born]) ?_ (.tup' rfl fun j v hj => ?_) q1 q2 hK
        · have hst : (Instr.keyThatStays en.key (a.eval k)).run P w = .ok (a.eval k) w := by rw [f3]; exact stays_run hkm
          simp only [execOp, ho, Instr.mapEntry, Sem.run_bind, run_underlying ht, Result.andThen_ok, hu, Go.MapKept.run_getObj_map hb, check_run hkd hkm, f1, f2, Option.map_some, Option.getD_some, hst, Go.MapKept.run_setObj_map _ hb, Sem.run_pure]
          rfl
        · match j, hj with
          | 0, hj => simp at hj; subst hj; exact ⟨en.val, rfl, f7.ext q2⟩
          | 1, hj => simp at hj; subst hj; exact ⟨_, rfl, .int⟩
          | j + 2, hj => simp at hj
    · exact h.elim
  · exact h.elim
theorem stp_find {es : Array MapEntry} {ck j n : Nat} {e : MapEntry} (h : Stp es ck) (hj : es[j]? = some e) (hn : e.born = n) : es.findIdx? (fun e => (e.born : Int) == (n : Int)) = some j := by
  obtain ⟨hlt, rfl⟩ := Array.getElem?_eq_some_iff.1 hj
  rw [Array.findIdx?_eq_some_iff_getElem]
  refine ⟨hlt, by simp [hn], fun i hi => ?_⟩
  have hnd := List.pairwise_iff_getElem.1 h.2 i j (by simp; omega) (by simpa using hlt) hi
  simp only [List.getElem_map, Array.getElem_toList] at hnd
  simp only [beq_iff_eq]
  intro h2
  apply hnd
  omega
theorem mSto_sound {m s v : Operand} {m' s' v' : Opd} (ho : o.op = .entryStore t m s v) (hm : opd m = some m') (hs0 : opd s = some s') (hv : opd v = some v') (he : Slots ρ S w e a) (hi : Inv ρ S w)
    (h : stmA P (.xs .mSto [m', s', v']) e S K) : StmPost P o a ρ S w K := by
  have h1 := opd_rel he hm
  have h2 := opd_rel he hs0
  have h3 := opd_rel he hv
  simp only [stmA, evs, List.map_cons, List.map_nil, xstmA, mStoK] at h
  split at h
  · rename_i id ver n' e1 e2
    split at h
    · rename_i kd' rows j n hs
      obtain ⟨rfl, hK⟩ := h
      rw [e1] at h1
      rw [e2] at h2
      have h2 := h2.int_inv
      obtain ⟨g, hg, hu⟩ := h1.mapv_inv hs rfl
      obtain ⟨g', a1, b⟩ := hi.maps id ver ⟨kd', rows, .opened j n⟩ (mp_some hs)
      rw [hg] at a1
      cases a1
      obtain ⟨es, ck, hb, ⟨c1, c2, c3⟩, hst, en, f1, f2⟩ := b
      simp only at c1 c2 c3
      have hjl : j < es.size := (Array.getElem?_eq_some_iff.1 f1).1
      obtain ⟨q1, q2⟩ := map_setX (ck' := ck) (es' := es.modify j fun e' => { e' with val := a.eval v }) (rows' := rows.modify j fun p => (p.1, ev e v')) (x' := .free) hi hs rfl rfl (fun i h => by cases h) hg hb (hst := hst.modify _ _ fun _ => rfl) ⟨by simp [c1], fun p hp => by
          obtain ⟨i, hi'⟩ := List.getElem?_of_mem hp
          simp only at hi'
          by_cases hij : j = i
          · rw [List.getElem?_modify] at hi'
            subst hij
            cases hq : rows[j]? with
            | none => rw [hq] at hi'; cases hi'
            | some q =>
              rw [hq] at hi'
              simp at hi'
              rw [← hi']
              exact c2 q (List.mem_of_getElem? hq)
          · rw [List.getElem?_modify] at hi'
            cases hq : rows[i]? with
            | none => rw [hq] at hi'; cases hi'
            | some q =>
              rw [hq] at hi'
              simp [hij] at hi'
              rw [← hi']
              exact c2 q (List.mem_of_getElem? hq), fun i kk vv hik => by
          simp only at hik
          rw [List.getElem?_modify] at hik
          rw [Array.getElem?_modify]
          cases hq : rows[i]? with
          | none => rw [hq] at hik; cases hik
          | some q =>
            rw [hq] at hik
            obtain ⟨en', a1, a2, a3⟩ := c3 i q.1 q.2 (by rw [hq])
            by_cases hij : j = i
            · simp [hij] at hik
              obtain ⟨rfl, rfl⟩ := hik
              rw [if_pos hij, a1]
              exact ⟨_, rfl, a2, h3⟩
            · simp [hij] at hik
              rw [if_neg hij]
              subst hik
              exact ⟨en', a1, a2, a3⟩⟩ (fun j n hjn => by cases hjn)
      refine post_skip ?_ .skipped q1 q2 hK
      simp only [execOp, ho, Instr.entryStore, Sem.run_bind, Result.andThen_ok, hu, Go.MapKept.run_getObj_map hb, h2, asInt, asIntOf, Sem.run_pure, stp_find hst f1 f2, Go.MapKept.run_setObj_map _ hb]
    · exact h.elim
  · exact h.elim
theorem ins_sound {m k v : Operand} {m' k' v' : Opd} (ho : o.op = .insert t m k v) (ht : P.underlying t = some (.map kt et)) (hkd : kdOf P kt = some kd) (hm : opd m = some m') (hk : opd k = some k') (hv : opd v = some v') (he : Slots ρ S w e a) (hi : Inv ρ S w)
    (h : stmA P (.xs (.mu kd) [m', k', v']) e S K) : StmPost P o a ρ S w K := by
  have h1 := opd_rel he hm
  have h2 := opd_rel he hk
  have h3 := opd_rel he hv
  simp only [stmA, evs, List.map_cons, List.map_nil, xstmA, muK] at h
  split at h
  · rename_i id ver e1
    split at h
    · rename_i kd' rows x hs
      obtain ⟨rfl, rfl, hkv, hK⟩ := h
      rw [e1] at h1
      obtain ⟨g, hg, hu⟩ := h1.mapv_inv hs rfl
      obtain ⟨es, ck, hb, hmr, hst, hf⟩ := map_find (P := P) hi hs rfl hg hkd hkv h2
      have hkm := KM.of hkv h2
      obtain ⟨c1, c2, c3⟩ := hmr
      rcases hf with ⟨f1, f2, f3⟩ | ⟨i, p, en, f1, f2, f3, f4, f5, f6, f7, f8⟩
      · rw [putV_none f3] at hK
        obtain ⟨q1, q2⟩ := map_set (ck' := ck + 1) (es' := es.push { key := a.eval k, val := a.eval v, born := ck }) (rows' := rows ++ [(ev e k', ev e v')]) hi hs rfl hg hb (hst := hst.push) ⟨by simp at c1; simp [c1], fun p hp => by
            rcases List.mem_append.1 hp with hp | hp
            · exact c2 p hp
            · simp at hp; subst hp; exact hkv, fun i kk vv hik => by
            simp only at c1 hik
            by_cases hlt : i < rows.length
            · rw [List.getElem?_append_left hlt] at hik
              obtain ⟨en, a1, a2, a3⟩ := c3 i kk vv hik
              exact ⟨en, by rw [Array.getElem?_push, if_neg (by omega)]; exact a1, a2, a3⟩
            · rw [List.getElem?_append_right (by omega)] at hik
              have hl := (List.getElem?_eq_some_iff.1 hik).1
              simp at hl
              have hi0 : i = rows.length := by omega
              subst hi0
              simp at hik
              obtain ⟨rfl, rfl⟩ := hik
              exact ⟨_, by rw [Array.getElem?_push, if_pos c1.symm], h2, h3⟩⟩
        refine post_skip ?_ .skipped q1 q2 hK
        simp only [execOp, ho, Instr.mapUpdate, Sem.run_bind, run_underlying ht, Result.andThen_ok, hu, Go.MapKept.run_getObj_map hb, check_run hkd hkm, f1, Go.MapKept.run_setObj_map _ hb, Sem.run_pure]
      · rw [putV_at f4 f5 f8] at hK
        have hmod : es.modify i (fun e' => { e' with key := a.eval k, val := a.eval v }) = es.setIfInBounds i { en with key := a.eval k, val := a.eval v } := by
          apply Array.ext_getElem?
          intro j
          rw [Array.getElem?_modify, Array.getElem?_setIfInBounds]
          by_cases hij : i = j
          · subst hij
            have hlt := (Array.getElem?_eq_some_iff.1 f2).1
            rw [if_pos rfl, if_pos rfl, f2]
            simp [hlt]
          · simp [hij]
        obtain ⟨q1, q2⟩ := map_set (ck' := ck) (es' := es.modify i fun e' => { e' with key := a.eval k, val := a.eval v }) (rows' := rows.set i (ev e k', ev e v')) hi hs rfl hg hb (hst := hst.modify _ _ fun _ => rfl) ⟨by simp at c1; simp [c1], fun p hp => by
            rcases List.mem_or_eq_of_mem_set hp with hp | rfl
            · exact c2 p hp
            · exact hkv, fun j kk vv hj => by
            simp only at c1 hj
            rw [hmod]
            rw [List.getElem?_set] at hj
            split at hj
            · rename_i hij
              subst hij
              split at hj
              · simp only [Option.some.injEq, Prod.mk.injEq] at hj
                obtain ⟨rfl, rfl⟩ := hj
                exact ⟨_, by rw [Array.getElem?_setIfInBounds_self_of_lt (Array.getElem?_eq_some_iff.1 f2).1], h2, h3⟩
              · cases hj
            · rename_i hij
              obtain ⟨en', a1, a2, a3⟩ := c3 j kk vv hj
              exact ⟨en', by rw [Array.getElem?_setIfInBounds_ne hij]; exact a1, a2, a3⟩⟩
        refine post_skip ?_ .skipped q1 q2 hK
        have hst : (Instr.keyThatStays en.key (a.eval k)).run P w = .ok (a.eval k) w := by rw [f3]; exact stays_run hkm
        simp only [execOp, ho, Instr.mapUpdate, Sem.run_bind, run_underlying ht, Result.andThen_ok, hu, Go.MapKept.run_getObj_map hb, check_run hkd hkm, f1, f2, Option.map_some, Option.getD_some, hst, Go.MapKept.run_setObj_map _ hb, Sem.run_pure]
    · exact h.elim
  · exact h.elim
theorem mdel_sound {c : Call} {t' : TypeId} {m k : Operand} {m' k' : Opd} (ho : o.op = .call c) (hc : c.callee = .builtin .delete) (ha : c.args.toList = [m, k]) (hts : c.argTypes.toList = [t, t']) (ht : P.underlying t = some (.map kt et)) (hkd : kdOf P kt = some kd)
    (hm : opd m = some m') (hk : opd k = some k') (he : Slots ρ S w e a) (hi : Inv ρ S w) (h : stmA P (.xs (.mdel kd) [m', k']) e S K) : StmPost P o a ρ S w K := by
  have ha' : c.args = #[m, k] := by rw [← ha]
  have hts' : c.argTypes = #[t, t'] := by rw [← hts]
  have h1 := opd_rel he hm
  have h2 := opd_rel he hk
  simp only [stmA, evs, List.map_cons, List.map_nil, xstmA, muK] at h
  split at h
  · rename_i id ver e1
    split at h
    · rename_i kd' rows x hs
      obtain ⟨rfl, rfl, hkv, hK⟩ := h
      rw [e1] at h1
      obtain ⟨g, hg, hu⟩ := h1.mapv_inv hs rfl
      obtain ⟨es, ck, hb, hmr, hst, hf⟩ := map_find (P := P) hi hs rfl hg hkd hkv h2
      have hkm := KM.of hkv h2
      have hmr' := hmr
      obtain ⟨c1, c2, c3⟩ := hmr
      rcases hf with ⟨f1, f2, f3⟩ | ⟨i, p, en, f1, f2, f3, f4, f5, f6, f7, f8⟩
      · rw [delV_none f3] at hK
        obtain ⟨q1, q2⟩ := map_set (ck' := ck) (es' := es) (rows' := rows) hi hs rfl hg hb hmr' hst
        refine post_value (u := .tuple #[]) ?_ (.tup' rfl (by simp)) q1 q2 hK
        simp [execOp, ho, hc, ha', hts', resolve, invoke, builtin, Builtin.delete_, run_underlying ht, hu, Go.MapKept.run_getObj_map hb, check_run hkd hkm, f1, Go.MapKept.run_setObj_map _ hb, Result.andThen_ok]
      · rw [delV_at f4 f5 f8] at hK
        have hlt := (Array.getElem?_eq_some_iff.1 f2).1
        have her : es.eraseIdxIfInBounds i = es.eraseIdx i hlt := by simp [Array.eraseIdxIfInBounds, hlt]
        obtain ⟨q1, q2⟩ := map_set (ck' := ck) (es' := es.eraseIdxIfInBounds i) (rows' := rows.eraseIdx i) hi hs rfl hg hb (hst := hst.erase _) ⟨by
            simp only at c1
            rw [her]
            simp [List.length_eraseIdx, c1, show i < rows.length by omega], fun p hp => c2 p (List.mem_of_mem_eraseIdx hp), fun j kk vv hj => by
            simp only at c1 hj
            rw [her]
            rw [List.getElem?_eraseIdx] at hj
            split at hj
            · rename_i hji
              obtain ⟨en', a1, a2, a3⟩ := c3 j kk vv hj
              exact ⟨en', by rw [Array.getElem?_eraseIdx, if_pos hji]; exact a1, a2, a3⟩
            · rename_i hji
              obtain ⟨en', a1, a2, a3⟩ := c3 (j + 1) kk vv hj
              exact ⟨en', by rw [Array.getElem?_eraseIdx, if_neg hji]; exact a1, a2, a3⟩⟩
        refine post_value (u := .tuple #[]) ?_ (.tup' rfl (by simp)) q1 q2 hK
        simp [execOp, ho, hc, ha', hts', resolve, invoke, builtin, Builtin.delete_, run_underlying ht, hu, Go.MapKept.run_getObj_map hb, check_run hkd hkm, f1, Go.MapKept.run_setObj_map _ hb, Result.andThen_ok]
    · exact h.elim
  · exact h.elim
theorem mclr_sound {c : Call} {m : Operand} {m' : Opd} (ho : o.op = .call c) (hc : c.callee = .builtin .clear) (ha : c.args.toList = [m]) (hts : c.argTypes.toList = [t]) (ht : P.underlying t = some (.map kt et)) (hm : opd m = some m') (he : Slots ρ S w e a) (hi : Inv ρ S w)
    (h : stmA P (.xs .mclr [m']) e S K) : StmPost P o a ρ S w K := by
  have ha' : c.args = #[m] := by rw [← ha]
  have hts' : c.argTypes = #[t] := by rw [← hts]
  have h1 := opd_rel he hm
  simp only [stmA, evs, List.map_cons, List.map_nil, xstmA, mclrK] at h
  split at h
  · rename_i id ver e1
    split at h
    · rename_i kd rows x hs
      obtain ⟨rfl, h⟩ := h
      rw [e1] at h1
      obtain ⟨g, hg, hu⟩ := h1.mapv_inv hs rfl
      obtain ⟨g', a1, hb⟩ := hi.maps id ver _ (mp_some hs)
      rw [hg] at a1
      cases a1
      obtain ⟨es, ck, hb, _, _⟩ := hb.map rfl
      obtain ⟨q1, q2⟩ := map_set (ck' := ck) (es' := #[]) (rows' := []) hi hs rfl hg hb ⟨rfl, by simp, by simp⟩ .nil
      refine post_value (u := .tuple #[]) ?_ (.tup' rfl (by simp)) q1 q2 h
      simp [execOp, ho, hc, ha', hts', resolve, invoke, builtin, Builtin.clear_, run_underlying ht, hu, Go.MapKept.run_getObj_map hb, Go.MapKept.run_setObj_map _ hb, Result.andThen_ok]
    · exact h.elim
  · exact h.elim
end
section
variable {o : Oper} {ρ : Place} {S : Store} {w : World} {e : Nat → V} {a : Act} {K : V → Store → Prop} {t kt et : TypeId}
theorem range_sound {x : Operand} {x' : Opd} (ho : o.op = .range t x) (ht : P.underlying t = some (.map kt et)) (hx : opd x = some x') (he : Slots ρ S w e a) (hi : Inv ρ S w) (h : stmA P (.xs .range [x']) e S K) : StmPost P o a ρ S w K := by
  have h1 := opd_rel he hx
  simp only [stmA, evs, List.map_cons, List.map_nil, xstmA, rangeK] at h
  have fin : ∀ {ρ' : Place} {S' : Store} {w' : World} {m : MapC}, ρ' S.length = some (w.heap.size, 0) → S'[S.length]? = some ⟨0, some (.mp m)⟩ → m.x.isIt = true → VR ρ' S' w' false (.mapv S.length 0) (.pointer (some ⟨w.heap.size, 0, none⟩)) := by
    intro ρ' S' w' m hr hs hm
    refine .mapv (List.getElem?_eq_some_iff.1 hs).1 (fun o ho => Nat.zero_le _) (fun rows hs' => ⟨_, hr, ?_⟩) rfl
    rw [hs] at hs'
    simp only [Option.some.injEq, Obj.mk.injEq, Cont.mp.injEq, true_and] at hs'
    subst hs'
    simp [MapC.addr, hm]
  split at h
  · rename_i e1
    rw [e1] at h1
    have hu : a.eval x = .map none := by generalize a.eval x = u at h1; cases h1; rfl
    obtain ⟨k1, k2⟩ := push_map (ver := 0) (rows := ⟨.st [], [], .iter none none⟩) hi (fun i h => by cases h) rfl (w' := w.alloc (.mapIter none 0 #[] 0)) (by simp) rfl ⟨rfl, by first | exact Nat.le_refl _ | exact Nat.le_succ _ | exact Nat.zero_le _⟩ rfl (fun k hk => Go.heap_alloc_old w _ hk) fun _ => ⟨fun p hp => (by cases hp), [], default, ⟨rfl, fun i k v h => by simp at h⟩, fun p hp => (by cases hp), 0, #[], 0, Go.heap_alloc_new w _⟩
    refine post_value (u := .pointer (some ⟨w.heap.size, 0, none⟩)) ?_ (fin (m := ⟨.st [], [], .iter none none⟩) (by simp [upd]) (by rw [List.getElem?_append_right (Nat.le_refl _)]; simp) rfl) k1 k2 h
    simp only [execOp, ho, Sem.run_bind, hu, run_range_nilMap w t kt et ht, Result.andThen_ok, Sem.run_pure]
  · rename_i id ver e1
    split at h
    · rename_i kd rows x hs
      obtain ⟨rfl, hK⟩ := h
      rw [e1] at h1
      obtain ⟨g, hg, hu⟩ := h1.mapv_inv hs rfl
      obtain ⟨g', a1, hb⟩ := hi.maps id ver _ (mp_some hs)
      rw [hg] at a1
      cases a1
      obtain ⟨es, ck, hb, hmr, hst⟩ := hb.map rfl
      have her : ER ρ S w rows es.toList := ⟨by simpa using hmr.1, fun i k v hik => by
        obtain ⟨en, c1, c2, c3⟩ := hmr.2.2 i k v hik
        exact ⟨en, by simpa using c1, c2, c3⟩⟩
      have hs' := mp_some hs
      have hlt := (List.getElem?_eq_some_iff.1 hs').1
      have hg2 := (Array.getElem?_eq_some_iff.1 hb).1
      obtain ⟨k1, k2⟩ := push_map (ver := 0) (rows := ⟨kd, rows, .iter (some (id, ver)) none⟩) hi (fun i h => by cases h) rfl (w' := w.alloc (.mapIter (some g) ck #[] ck)) (by simp) rfl ⟨rfl, by first | exact Nat.le_refl _ | exact Nat.le_succ _ | exact Nat.zero_le _⟩ rfl (fun k hk => Go.heap_alloc_old w _ hk) fun hx => ⟨hmr.2.1, es.toList, default, her.ext hx, fun p hp => (by cases hp), g, ck, #[], Go.heap_alloc_new w _, fun kd' rows' hm => by
        rw [List.getElem?_append_left hlt, hs'] at hm
        cases hm⟩
      have hl : ∀ (es : Array MapEntry), leftOf es #[] = es := fun es => by simp [leftOf]
      have hb' : (w.alloc (.mapIter (some g) ck #[] ck)).heap[g]? = some (.map es ck) := (Go.heap_alloc_old w _ hg2).trans hb
      have hro : upd ρ S.length w.heap.size 0 id = some (g, 0) := by simp [upd, Nat.ne_of_lt hlt, hg]
      obtain ⟨m1, m2⟩ := lock_map (id := id) (ver := ver) (it := S.length) (iver := 0) (g := g) (kd := kd) (rows := rows) (mi := ⟨kd, rows, .iter (some (id, ver)) none⟩) (since := ck) (seen := #[]) (l := es.toList) (ce := default) k1 (by rw [List.getElem?_append_left hlt]; exact hs') hro
        (by rw [List.getElem?_append_right (Nat.le_refl _)]; simp) rfl (fun gi hgi => by
          simp only [upd, if_true, Option.some.injEq, Prod.mk.injEq, and_true] at hgi
          subst hgi
          exact Go.heap_alloc_new w _) hmr.2.1 (her.ext k2) ⟨hro, es, hb', hst, by rw [hl], fun h => by cases h⟩
      have hset : (S ++ [⟨0, some (.mp ⟨kd, rows, .iter (some (id, ver)) none⟩)⟩] : Store).set id ⟨ver, some (.mp ⟨kd, rows, .held S.length⟩)⟩ = (S.set id ⟨ver, some (.mp ⟨kd, rows, .held S.length⟩)⟩) ++ [⟨0, some (.mp ⟨kd, rows, .iter (some (id, ver)) none⟩)⟩] := by
        rw [List.set_append_left _ _ hlt]
      rw [hset] at m1 m2
      refine post_value (u := .pointer (some ⟨w.heap.size, 0, none⟩)) ?_ (fin (m := ⟨kd, rows, .iter (some (id, ver)) none⟩) (by simp [upd]) (by rw [List.getElem?_append_right (by simp)]; simp) rfl) m1 (k2.trans m2) hK
      simp only [execOp, ho, Sem.run_bind, hu, run_range_map w t kt et g es ck ht hb, Result.andThen_ok, Sem.run_pure]
    · exact h.elim
  · exact h.elim
theorem left_push {es : Array MapEntry} {seen : Array Nat} {e : MapEntry} : (leftOf es (seen.push e.born)).toList = (leftOf es seen).toList.filter fun x => !(x.born == e.born) := by
  unfold leftOf
  simp only [Array.toList_filter, List.filter_filter]
  congr 1
  funext x
  rw [contains_push]
  cases seen.contains x.born <;> cases (x.born == e.born) <;> rfl
theorem perm_filter {l : List MapEntry} {j : Nat} {e : MapEntry} (hn : (l.map (·.born)).Nodup) (hj : l[j]? = some e) : (l.eraseIdx j).Perm (l.filter fun x => !(x.born == e.born)) := by
  induction l generalizing j with
  | nil => simp at hj
  | cons x l ih =>
    simp only [List.map_cons, List.nodup_cons] at hn
    cases j with
    | zero =>
      simp only [List.getElem?_cons_zero, Option.some.injEq] at hj
      subst hj
      simp only [List.eraseIdx_cons_zero, List.filter_cons, beq_self_eq_true, Bool.not_true, Bool.false_eq_true, if_false]
      rw [List.filter_eq_self.2]
      intro y hy
      have : y.born ≠ x.born := fun h => hn.1 (by rw [← h]; exact List.mem_map_of_mem hy)
      simp [this]
    | succ j =>
      simp only [List.getElem?_cons_succ] at hj
      have hm := List.mem_of_getElem? hj
      have : x.born ≠ e.born := fun h => hn.1 (by rw [h]; exact List.mem_map_of_mem hm)
      simp only [List.eraseIdx_cons_succ, List.filter_cons, beq_iff_eq, this, Bool.not_false, if_true, beq_eq_false_iff_ne.2 this]
      exact (ih hn.2 hj).cons _
theorem erase_perm {α : Type} : ∀ {l : List α} {j : Nat} {x : α}, l[j]? = some x → l.Perm (x :: l.eraseIdx j)
  | [], j, x, h => by simp at h
  | y :: l, 0, x, h => by simp at h; subst h; simp
  | y :: l, j + 1, x, h => by
    simp only [List.getElem?_cons_succ] at h
    simp only [List.eraseIdx_cons_succ]
    exact ((erase_perm h).cons y).trans (List.Perm.swap ..)
theorem next_sound {x : Operand} {x' : Opd} (ho : o.op = .next x false) (hx : opd x = some x') (he : Slots ρ S w e a) (hi : Inv ρ S w) (h : stmA P (.xs .next [x']) e S K) : StmPost P o a ρ S w K := by
  have h1 := opd_rel he hx
  simp only [stmA, evs, List.map_cons, List.map_nil, xstmA, nextK] at h
  have no : VR ρ S w false (.tup [.bool false]) (.tuple #[.bool false]) := .tup' rfl fun j v hj => by
    match j, hj with
    | 0, hj => simp at hj; subst hj; exact ⟨_, rfl, .bool⟩
    | j + 1, hj => simp at hj
  split at h
  · rename_i it iver e1
    rw [e1] at h1
    split at h
    · rename_i kd rest cur hs
      obtain ⟨g, hg, hu⟩ := h1.iter_inv hs rfl
      obtain ⟨g', a1, hb⟩ := hi.maps it iver _ (mp_some hs)
      rw [hg] at a1
      cases a1
      obtain ⟨_, _, _, _, _, since, seen, last, hb⟩ := hb
      refine post_value (u := .tuple #[.bool false]) ?_ no hi (Ext.refl _ _ _) h
      simp only [execOp, ho, Sem.run_bind, hu, Instr.next, getObj, Sem.run, hb, Result.andThen_ok, Sem.run_pure]
    · rename_i kd rest id ver cur hs
      split at h
      · rename_i kd' rows it' hm
        obtain ⟨rfl, hK0, hK1⟩ := h
        obtain ⟨g, hg, hu⟩ := h1.iter_inv hs rfl
        have hsi := mp_some hs
        have hsm := mp_some hm
        obtain ⟨g', a1, hb⟩ := hi.maps it' iver _ hsi
        rw [hg] at a1
        cases a1
        obtain ⟨hkv, l, ce, l5, lc, gm, since, seen, hb, hl⟩ := hb
        obtain ⟨l1, es, l2, l3, l4, _⟩ := hl kd' rows hsm
        rcases run_next_at (P := P) w o.type g gm since since seen es since hb l2 l3.1 (Nat.le_refl _) with ⟨h0, hrun⟩ | ⟨en, hen, w1, hal, hrun⟩
        · have hrest : rest = [] := by
            have : l.length = 0 := by rw [l4.length_eq]; simpa using h0
            have := l5.1
            exact List.eq_nil_of_length_eq_zero (by simp only at this; omega)
          obtain ⟨gm', a2, hbm⟩ := hi.maps id ver _ hsm
          obtain ⟨es2, ck2, c1, c2, c3⟩ := hbm.map rfl
          obtain ⟨k1, k2⟩ := set_map (w' := w) (rows' := ⟨kd', rows, .free⟩) hi (fun i h => by cases h) hsm l1 rfl rfl ⟨rfl, by first | exact Nat.le_refl _ | exact Nat.zero_le _⟩ rfl (fun k _ => rfl) ⟨rfl, rfl⟩ fun hx => by
            rw [l1] at a2
            cases a2
            exact ⟨es2, ck2, c1, c2.ext hx, c3⟩
          refine post_value (u := .tuple #[.bool false]) ?_ (no.ext k2) k1 k2 (hK0 hrest)
          simp only [execOp, ho, hu, Sem.run_bind, hrun, Result.andThen_ok, Sem.run_pure]
        · have hml : en ∈ l := l4.mem_iff.2 hen
          obtain ⟨j, hj⟩ := List.getElem?_of_mem hml
          have hjl : j < rest.length := by
            have := (List.getElem?_eq_some_iff.1 hj).1
            have h5 := l5.1
            simp only at h5
            omega
          have hp : rest[j]? = some rest[j] := List.getElem?_eq_getElem hjl
          obtain ⟨en', q1, q2, q3⟩ := l5.2 j _ _ hp
          rw [hj] at q1
          cases q1
          have hw1 : w1.heap = w.heap ∧ w1.os = w.os ∧ (w1.tape = w.tape ∧ w.drawn ≤ w1.drawn) ∧ w1.output = w.output := by
            rcases hal with rfl | rfl
            · exact ⟨rfl, rfl, ⟨rfl, by first | exact Nat.le_refl _ | exact Nat.zero_le _⟩, rfl⟩
            · exact ⟨rfl, rfl, ⟨rfl, by first | exact Nat.le_succ _ | exact Nat.zero_le _⟩, rfl⟩
          have hb1 : w1.heap[g]? = some (.mapIter (some gm) since seen since) := by rw [hw1.1]; exact hb
          obtain ⟨f1, f2⟩ := Go.MapKept.heap_set (w := w1) (o' := .mapIter (some gm) since (seen.push en.born) since) hb1
          have hne : gm ≠ g := by
            rintro rfl
            rw [l2] at hb
            cases hb
          have hii : it' ≠ id := by
            rintro rfl
            rw [hsi] at hsm
            cases hsm
          obtain ⟨k1, k2⟩ := set_map (w' := { w1 with heap := w1.heap.setIfInBounds g (.mapIter (some gm) since (seen.push en.born) since) }) (rows' := ⟨kd, rest.eraseIdx j, .iter (some (id, ver)) (some rest[j])⟩) hi (fun i h => by cases h) hsi hg (by simp [hw1.1]) hw1.2.1 hw1.2.2.1 hw1.2.2.2
            (fun k hk => (f2 k hk).trans (by rw [hw1.1])) ⟨rfl, rfl⟩ fun hx => ⟨fun p hp => hkv p (List.mem_of_mem_eraseIdx hp), l.eraseIdx j, en, by
              obtain ⟨q4, q5⟩ := l5.ext hx
              simp only at q4 q5
              refine ⟨by rw [List.length_eraseIdx, List.length_eraseIdx, q4], fun i k v hik => ?_⟩
              rw [List.getElem?_eraseIdx] at hik ⊢
              split at hik
              · rename_i hij; rw [if_pos hij]; exact q5 i k v hik
              · rename_i hij; rw [if_neg hij]; exact q5 (i + 1) k v hik, fun p hp => (by cases hp; exact ⟨q2.ext hx, q3.ext hx⟩), gm, since, seen.push en.born, f1, fun kd2 rows2 _ => ⟨l1, es, (f2 gm hne).trans (by rw [hw1.1]; exact l2), l3, by
              have hn : (l.map (·.born)).Nodup := (l4.map _).nodup_iff.2 (by
                refine l3.2.sublist (List.Sublist.map _ ?_)
                unfold leftOf
                rw [Array.toList_filter]
                exact List.filter_sublist)
              rw [left_push]
              exact (perm_filter hn hj).trans (l4.filter _), fun _ => ⟨(mem_left hen).1, seen, rfl⟩⟩⟩
          refine post_value (u := .tuple #[.bool true, en.key, en.val]) ?_ (.tup' rfl fun i v hi' => ?_) k1 k2 (hK1 rest[j] _ (erase_perm hp))
          · simp only [execOp, ho, hu, Sem.run_bind, hrun, Result.andThen_ok, Sem.run_pure]
            rfl
          · match i, hi' with
            | 0, hi' => simp at hi'; subst hi'; exact ⟨_, rfl, .bool⟩
            | 1, hi' => simp at hi'; subst hi'; exact ⟨_, rfl, q2.ext k2⟩
            | 2, hi' => simp at hi'; subst hi'; exact ⟨_, rfl, q3.ext k2⟩
            | i + 3, hi' => simp at hi'
      · exact h.elim
    · exact h.elim
  · exact h.elim
end
theorem compXE_sound {o : Oper} {s : AStm} {ρ : Place} {S : Store} {w : World} {e : Nat → V} {a : Act} {K : V → Store → Prop} (hc : compXE P o = some s) (he : Slots ρ S w e a) (hi : Inv ρ S w) (h : stmA P s e S K) : StmPost P o a ρ S w K := by
  unfold compXE at hc
  split at hc
  · rename_i t r ho
    split at hc
    · rename_i kt et r' ht hr
      simp only [Option.map_eq_some_iff] at hc
      obtain ⟨kd, _, rfl⟩ := hc
      exact mkM_sound ho ht hr he hi h
    · cases hc
  · rename_i t x ho
    split at hc
    · rename_i kt et x' ht hx
      simp only [Option.some.injEq] at hc
      subst hc
      exact range_sound ho ht hx he hi h
    · cases hc
  · rename_i x ho
    split at hc
    · rename_i x' hx
      simp only [Option.some.injEq] at hc
      subst hc
      exact next_sound ho hx he hi h
    · cases hc
  · rename_i t m k ho
    split at hc
    · rename_i kt et m' k' ht hm hk
      split at hc
      · rename_i kd z hkd hz
        simp only [Option.some.injEq] at hc
        subst hc
        exact mEnt_sound ho ht hkd hz hm hk he hi h
      · cases hc
    · cases hc
  · rename_i t m s x ho
    split at hc
    · rename_i m' s' x' hm hs hx
      simp only [Option.some.injEq] at hc
      subst hc
      exact mSto_sound ho hm hs hx he hi h
    · cases hc
  · rename_i t m k v ho
    split at hc
    · rename_i kt et m' k' v' ht hm hk hv
      simp only [Option.map_eq_some_iff] at hc
      obtain ⟨kd, hkd, rfl⟩ := hc
      exact mu_sound ho ht hkd hm hk hv he hi h
    · cases hc
  · rename_i t m k v ho
    split at hc
    · rename_i kt et m' k' v' ht hm hk hv
      simp only [Option.map_eq_some_iff] at hc
      obtain ⟨kd, hkd, rfl⟩ := hc
      exact ins_sound ho ht hkd hm hk hv he hi h
    · cases hc
  · rename_i c ho
    split at hc
    · rename_i x l hcal ha
      split at hc
      · rename_i pt it x' l' hts hx hl
        split at hc
        · rename_i q hp
          split at hc
          · rename_i h1
            simp only [Option.some.injEq] at hc
            subst hc
            exact uStr_sound ho hcal ha hts hp h1 hx hl he hi h
          · cases hc
        · cases hc
      · cases hc
    · rename_i f x hcal ha
      split at hc
      · rename_i hne
        simp only [Option.map_eq_some_iff] at hc
        obtain ⟨x', hx, rfl⟩ := hc
        simp only [stmA, opV, pureK] at h
        have ha' : c.args = #[x] := by rw [← ha]
        refine post_value (u := a.eval x) (w' := w) ?_ (opd_rel he hx) hi (Ext.refl _ _ _) h
        simp [execOp, ho, resolve, hcal, ha', Deferred.ofValue, Act.eval, invoke, noEsc_run hne]
      · cases hc
    · rename_i m k hcal ha
      split at hc
      · rename_i t t' m' k' hts hm hk
        split at hc
        · rename_i kt et ht
          simp only [Option.map_eq_some_iff] at hc
          obtain ⟨kd, hkd, rfl⟩ := hc
          exact mdel_sound ho hcal ha hts ht hkd hm hk he hi h
        · cases hc
      · cases hc
    · rename_i m hcal ha
      split at hc
      · rename_i t m' hts hm
        split at hc
        · rename_i kt et ht
          simp only [Option.some.injEq] at hc
          subst hc
          exact mclr_sound ho hcal ha hts ht hm he hi h
        · cases hc
      · cases hc
    · cases hc
  · cases hc
theorem stm_sound {own : Hint} {o : Oper} {s : AStm} {ρ : Place} {S : Store} {w : World} {e : Nat → V} {a : Act} {K : V → Store → Prop} (hc : compStm P own o = some s) (he : Slots ρ S w e a) (hi : Inv ρ S w) (h : stmA P s e S K) : StmPost P o a ρ S w K := by
  unfold compStm at hc
  split at hc
  · rename_i s' hs
    simp only [Option.some.injEq] at hc
    subst hc
    unfold compEff at hs
    split at hs
    · -- box
      rename_i t x ho
      split at hs
      · simp only [Option.map_eq_some_iff] at hs
        obtain ⟨x', hx, rfl⟩ := hs
        simp only [stmA] at h
        split at h
        · rename_i vs hvs
          have hcr := (opd_rel he hx).toCR hvs
          obtain ⟨f1, f2, f3⟩ := alloc_facts w (a.eval x).cells t
          obtain ⟨k1, k2⟩ := push_obj (ver := 0) (tot := 1) (rows := [vs]) hi rfl f1 rfl ⟨rfl, by first | exact Nat.le_refl _ | exact Nat.le_succ _ | exact Nat.zero_le _⟩ rfl f2 f3 (Nat.le_refl _) (by unfold maxLen; omega) (by rw [hcr.1]; omega) (RRH.one hcr)
          have hrun : (execOp a.eval o).run P w = .ok (.value (.pointer (some ⟨w.heap.size, 0, none⟩))) (w.alloc (.cells (a.eval x).cells t)) := by
            simp [execOp, ho, Instr.box, newVar, newRow]
          exact post_value hrun (ptr_new (tot := 1) (by simp [upd])) k1 k2 h
        · cases h
      · cases hs
    · -- slice literal
      rename_i t n parts ho
      split at hs
      · split at hs
        · rename_i q sz zero ps hr hp
          split at hs
          · rename_i hmax
            simp only [Option.some.injEq] at hs
            subst hs
            simp only [stmA] at h
            split at h
            · rename_i rows hrows
              obtain ⟨ht, i, z, h1, h2, h3, h4, h5, h6⟩ := rowT_some hr
              obtain ⟨xs, hrun, hrr, hlen⟩ := run_bsl ho ht h1 h2 h3 h4 h5 h6 hmax hp he hrows
              obtain ⟨f1, f2, f3⟩ := alloc_facts w xs q
              have hn : n ≤ maxLen := by
                have := Nat.le_mul_of_pos_right n h6
                unfold maxLen
                omega
              obtain ⟨k1, k2⟩ := push_obj (ver := 0) (tot := n) (rows := rows) hi rfl f1 rfl ⟨rfl, by first | exact Nat.le_refl _ | exact Nat.le_succ _ | exact Nat.zero_le _⟩ rfl f2 f3 (by omega) hn (by rw [hrr.1, hlen]) hrr.head
              exact post_value hrun (msl_new (by simp [upd]) (by omega) (Nat.le_refl _)) k1 k2 h
            · cases h
          · cases hs
        · cases hs
      · cases hs
    · -- a new variable
      rename_i t ho
      simp only [Option.map_eq_some_iff] at hs
      obtain ⟨zero, hz, rfl⟩ := hs
      simp only [stmA] at h
      unfold zeroT at hz
      split at hz
      · rename_i i hti
        simp only [Option.bind_eq_some_iff] at hz
        obtain ⟨zv, ⟨z, z0, z1⟩, z2⟩ := hz
        have hcr : CR ρ S w zero z.cells := (V.ofVal_rel z1 false).toCR z2
        obtain ⟨f1, f2, f3⟩ := alloc_facts w z.cells t
        obtain ⟨k1, k2⟩ := push_obj (ver := 0) (tot := 1) (rows := [zero]) hi rfl f1 rfl ⟨rfl, by first | exact Nat.le_refl _ | exact Nat.le_succ _ | exact Nat.zero_le _⟩ rfl f2 f3 (Nat.le_refl _) (by unfold maxLen; omega) (by rw [hcr.1]; omega) (RRH.one hcr)
        have hrun : (execOp a.eval o).run P w = .ok (.value (.pointer (some ⟨w.heap.size, 0, none⟩))) (w.alloc (.cells z.cells t)) := by
          simp [execOp, ho, Instr.alloc, newVar, newRow, zeroValue, typeInfo, hti, z0]
        exact post_value hrun (ptr_new (tot := 1) (by simp [upd])) k1 k2 h
      · cases hz
    · -- a store
      rename_i t x v ho
      split at hs
      · rename_i n x' v' hn hx hv
        simp only [Option.some.injEq] at hs
        subst hs
        exact st_sound ho hn hx hv he hi h
      · cases hs
    · rename_i t l c ho
      split at hs
      · rename_i q sz zero l' c' ht hl hcc
        split at hs
        · rename_i hb
          simp only [Option.some.injEq] at hs
          subst hs
          exact mk_sound ho ht hb hl hcc he hi h
        · cases hs
      · cases hs
    · rename_i c ho
      split at hs
      · rename_i f l hcal hl
        split at hs
        · cases hs
        simp only [Option.some.injEq] at hs
        subst hs
        obtain ⟨l1, l2⟩ := opds_rel he hl
        refine call_wp (us := c.args.map a.eval) hi ?_ ⟨by simpa [evs] using l1, fun j v hv => ?_⟩ h
        · simp [execOp, ho, resolve, hcal, Deferred.ofValue, Act.eval, invoke]
        · obtain ⟨u, hu, hr⟩ := l2 j v hv
          exact ⟨u, by simpa using hu, hr⟩
      · rename_i t l hcal hl
        simp only [Option.some.injEq] at hs
        subst hs
        obtain ⟨l1, l2⟩ := opds_rel he hl
        simp only [stmA] at h
        split at h
        · rename_i f first cap hf
          have hfv := he t
          simp only [ev] at hf
          rw [hf] at hfv
          generalize hu : a.tmps.getD t Go.undef = uf at hfv
          cases hfv with
          | @func _ _ _ _ us xs c' d hl1 hm1 hc1 hv1 hd1 hw1 =>
            refine call_wp (us := us ++ c.args.map a.eval ++ xs) hi ?_ ⟨by simp [evs] at l1 ⊢; omega, fun j v hv => ?_⟩ h
            · have : a.eval (.tmp t) = .func (.func f) us xs := hu
              simp [execOp, ho, resolve, hcal, Deferred.ofValue, this, invoke]
            · have hA : (evs e l).length = c.args.size := by simpa [evs] using l1.symm
              rcases Nat.lt_or_ge j first.length with h1 | h1
              · rw [List.append_assoc, List.getElem?_append_left h1] at hv
                exact ⟨c' j, by rw [Array.append_assoc, Array.getElem?_append_left (by omega)]; exact hc1 j v hv, hv1 j v hv⟩
              · rcases Nat.lt_or_ge j (first.length + (evs e l).length) with h2 | h2
                · rw [List.getElem?_append_left (by simp; omega), List.getElem?_append_right h1] at hv
                  obtain ⟨u, hu2, hr⟩ := l2 _ v hv
                  refine ⟨u, ?_, hr⟩
                  rw [Array.getElem?_append_left (by simp; omega), Array.getElem?_append_right (by omega), hl1]
                  simpa using hu2
                · rw [List.getElem?_append_right (by simp; omega)] at hv
                  simp only [List.length_append] at hv
                  refine ⟨d (j - (first.length + (evs e l).length)), ?_, hw1 _ v hv⟩
                  rw [Array.getElem?_append_right (by simp; omega)]
                  have : j - (us ++ c.args.map a.eval).size = j - (first.length + (evs e l).length) := by simp; omega
                  rw [this]
                  exact hd1 _ v hv
        · cases h
      · rename_i s2 x2 hcal hl
        split at hs
        · rename_i t t' hts
          split at hs
          · rename_i q sz zero ht
            have two : ∃ x y, c.args = #[x, y] ∧ opd x = some s2 ∧ opd y = some x2 := by
              obtain ⟨callee, args, ts⟩ := c
              obtain ⟨args⟩ := args
              simp only at hl
              match args, hl with
              | [], hl => simp [opds] at hl
              | [x], hl =>
                simp only [opds] at hl
                split at hl
                · rename_i h1 h2
                  simp only [Option.some.injEq] at h2
                  subst h2
                  simp at hl
                · cases hl
              | [x, y], hl =>
                simp only [opds] at hl
                split at hl
                · rename_i h1 h2
                  split at h2
                  · rename_i h3 h4
                    simp only [Option.some.injEq] at h2 h4
                    subst h2 h4
                    simp only [Option.some.injEq, List.cons.injEq, and_true] at hl
                    exact ⟨x, y, rfl, by rw [h1, hl.1], by rw [h3, hl.2]⟩
                  · cases h2
                · cases hl
              | x :: y :: z :: r, hl =>
                simp only [opds] at hl
                split at hl
                · rename_i h1 h2
                  split at h2
                  · rename_i h3 h4
                    split at h4
                    · simp only [Option.some.injEq] at h2 h4; subst h2 h4; simp at hl
                    · cases h4
                  · cases h2
                · cases hl
            obtain ⟨x, y, hxy, hx, hy⟩ := two
            have ho' : o.op = .call { callee := .builtin .append, args := #[x, y], argTypes := #[t, t'] } := by
              rw [ho]
              obtain ⟨callee, args, ts⟩ := c
              obtain ⟨ts⟩ := ts
              simp only at hcal hts hxy
              subst hcal hts hxy
              rfl
            split at hs
            · rename_i htt
              simp only [Option.some.injEq] at hs
              subst hs
              obtain ⟨rfl, hb⟩ := htt
              exact app_sound ho' ht hb hx hy he hi h
            · split at hs
              · rename_i htt
                simp only [Option.some.injEq] at hs
                subst hs
                obtain ⟨rfl, ht2, hb⟩ := htt
                exact appS_sound ho' ht (isStrT_true ht2) hb hx hy he hi h
              · cases hs
          · cases hs
        · cases hs
      · cases hs
    · -- is a slice nil
      rename_i op t x y t' ho
      split at hs
      · split at hs
        · rename_i q x' y' ht hx hy
          split at hs
          · rename_i k neg z' hn
            simp only [Option.some.injEq] at hs
            subst hs
            obtain ⟨z, rfl, hop, hz, hxy, hk⟩ := compNil_spec hx hy hn
            exact nilD_sound ho ⟨_, ht⟩ he hi hop hz hxy h
          · cases hs
        · cases hs
      · cases hs
    · rename_i t x hh mm ho
      split at hs
      · split at hs
        · rename_i q x' h' m' ht hx hhh hmm
          simp only [Option.map_eq_some_iff] at hs
          obtain ⟨n, hz, rfl⟩ := hs
          exact clip_sound ho ht hz hx hhh hmm he hi h
        · cases hs
      · cases hs
    · cases hs
  · split at hc
    · rename_i s' hs
      simp only [Option.some.injEq] at hc
      subst hc
      exact compXE_sound hs he hi h
    simp only [Option.map_eq_some_iff] at hc
    obtain ⟨op, hop, rfl⟩ := hc
    intro next Q hn
    simp only [stmA, pureK] at h
    split at h
    · rename_i v hv
      obtain ⟨u, w', hr, h1, h2, h3⟩ := opV_sound hop he hi hv
      unfold Oper.wp
      rw [hr]
      exact hn ρ S w' v u h1 h3 h2 h
    · cases h
end
end Go.AL
