/- Small facts for walks, and the equations by which 'simp only' walks: none of them by 'rfl', so that the kernel follows each step. -/
import Derived.Test.YtkdbghhdklfoiaaDoorSAl8
namespace Go.AL
set_option linter.unusedSectionVars false
variable [Mode]
set_option linter.unusedSimpArgs false
set_option linter.unusedVariables false
theorem wrap_i64 {n : Int} (h1 : -9223372036854775808 ≤ n) (h2 : n ≤ 9223372036854775807) : IntKind.i64.wrap n = n := by
  rw [IntKind.wrap_i64]; omega
theorem wrap_u8 {n : Int} (h1 : 0 ≤ n) (h2 : n ≤ 255) : IntKind.u8.wrap n = n := by
  simp only [IntKind.wrap, IntKind.bits, IntKind.signed, Bool.false_and, Bool.false_eq_true, if_false]
  omega
theorem wrap_u64 {n : Int} (h1 : 0 ≤ n) (h2 : n ≤ 18446744073709551615) : IntKind.u64.wrap n = n := by
  simp only [IntKind.wrap, IntKind.bits, IntKind.signed, Bool.false_and, Bool.false_eq_true, if_false]
  omega
theorem cast_zero : ((0 : Nat) : Int) = 0 := by omega
theorem cast_one : ((1 : Nat) : Int) = 1 := by omega
section
variable {P : Program} {N : Nat} {σ : Base} {Q : Exit → Env → Store → Prop} {E : Env} {S : Store} {e : Nat → V} {x y z : Opd}
theorem w_skip : wpA P N σ .skip Q E S = Q .normal E S := by simp only [wpA]
theorem w_reg {l : List AItem} : wpA P N σ (.reg l) Q E S = regA P l E S (Q .normal) := by simp only [wpA]
theorem w_seq {a b : ACode} : wpA P N σ (.seq a b) Q E S = wpA P N σ a (thenA (wpA P N σ b Q) Q) E S := by simp only [wpA]
theorem w_block {id : Nat} {c : ACode} : wpA P N σ (.block id c) Q E S = wpA P N σ c (blockA id Q) E S := by simp only [wpA]
theorem w_loop {c : ACode} : wpA P N σ (.loop c) Q E S = LoopA P N σ c Q E S := by simp only [wpA]
theorem w_exit {id : Nat} : wpA P N σ (.exit id) Q E S = Q (.exit id) E S := by simp only [wpA]
theorem w_ret : wpA P N σ .ret Q E S = Q .ret E S := by simp only [wpA]
theorem r_nil {K : Env → Store → Prop} : regA P [] E S K = K E S := by simp only [regA]
def guardV (E : Env) (t : Nat) (v : V) (want : Bool) (a b : Env → Prop) : Prop := match v with
  | .bool x => (x = want → a ((t, .bool want) :: E)) ∧ (x = !want → b ((t, .bool !want) :: E))
  | .skipped => b E
  | _ => False
theorem r_guard {d : Option Nat} {t : Nat} {want : Bool} {s : AStm} {r : List AItem} {K : Env → Store → Prop} : regA P (⟨d, some (t, want), s⟩ :: r) E S K =
    guardV E t (E.get t) want (fun E => stmA P s E.get S fun v S' => regA P r (E.put d v) S' K) (fun E => regA P r (E.put d .skipped) S K) := by simp only [regA, guardA, guardV]; rfl
theorem g_bool {t : Nat} {b want : Bool} {p q : Env → Prop} : guardV E t (.bool b) want p q = if b = want then p ((t, .bool want) :: E) else q ((t, .bool !want) :: E) := by
  simp only [guardV]
  by_cases h : b = want
  · simp [h]
  · have : b = !want := by cases b <;> cases want <;> simp_all
    simp [this]
theorem if_cases {c : Prop} [Decidable c] {a b : Prop} : (if c then a else b) = ((c → a) ∧ (¬ c → b)) := by
  by_cases h : c <;> simp [h]
theorem g_skip {t : Nat} {want : Bool} {p q : Env → Prop} : guardV E t .skipped want p q = q E := by simp only [guardV]
theorem w_frz {t : Nat} : wpA P N σ (.frz t) Q E S = frzB (E.get t) t E S (Q .normal) := by simp only [wpA]
theorem z_ptr {id ver t : Nat} {K : Env → Store → Prop} : frzB (.ptr id ver 0 0) t E S K = frzO (S.obj? id ver) id ver t E S K := by simp only [frzB]
theorem z_some {ty : TypeId} {sz id ver t : Nat} {cells : List V} {K : Env → Store → Prop} : frzO (some (ty, sz, [cells])) id ver t E S K = (V.allImm cells = true ∧ K ((t, .cptr cells) :: E) (S.set id ⟨ver, none⟩)) := by simp only [frzO]
@[congr] theorem frzO_congr {o o' : Option (TypeId × Nat × List (List V))} {id ver t : Nat} {K : Env → Store → Prop} (h : o = o') : frzO o id ver t E S K = frzO o' id ver t E S K := by rw [h]
@[congr] theorem frzB_congr {v v' : V} {t : Nat} {K : Env → Store → Prop} (h : v = v') : frzB v t E S K = frzB v' t E S K := by rw [h]
theorem ai_nil : V.allImm [] = true := rfl
theorem ai_int {k : IntKind} {n : Int} {r : List V} : V.allImm (.int k n :: r) = V.allImm r := by simp only [V.allImm, V.isImm, Bool.true_and]
theorem ai_str {l : List UInt8} {r : List V} : V.allImm (.str l :: r) = V.allImm r := by simp only [V.allImm, V.isImm, Bool.true_and]
theorem ai_sl {sz : Nat} {l : List (List V)} {r : List V} : V.allImm (.sl sz l :: r) = V.allImm r := by simp only [V.allImm, V.isImm, Bool.true_and]
theorem ai_bool {b : Bool} {r : List V} : V.allImm (.bool b :: r) = V.allImm r := by simp only [V.allImm, V.isImm, Bool.true_and]
theorem ai_nilSl {r : List V} : V.allImm (.nilSl :: r) = V.allImm r := by simp only [V.allImm, V.isImm, Bool.true_and]
theorem ai_cptr {l r : List V} : V.allImm (.cptr l :: r) = V.allImm r := by simp only [V.allImm, V.isImm, Bool.true_and]
theorem w_oreg2 {a b c : List (Fl × AItem)} : wpA P N σ (.oreg2 a b c) Q E S = regO P a E S fun E S => regO P b E S (Q .normal) ∧ regO P c E S (Q .normal) := by simp only [wpA]
theorem w_oregT {t : AT (Fl × AItem)} : wpA P N σ (.oregT t) Q E S = regT P t E S (Q .normal) := by simp only [wpA]
theorem w_tFin {K : Env → Store → Prop} : regT P .fin E S K = K E S := by simp only [regT]
theorem w_tOne {x : Fl × AItem} {r : AT (Fl × AItem)} {K : Env → Store → Prop} : regT P (.one x r) E S K = regO P [x] E S fun E S => regT P r E S K := by simp only [regT]
theorem w_tAlt {a b : AT (Fl × AItem)} {K : Env → Store → Prop} : regT P (.alt a b) E S K = (regT P a E S K ∧ regT P b E S K) := by simp only [regT]
theorem w_oreg {l : List (Fl × AItem)} : wpA P N σ (.oreg l) Q E S = regO P l E S (Q .normal) := by simp only [wpA]
theorem q_nil {K : Env → Store → Prop} : regO P [] E S K = K E S := by simp only [regO]
theorem q_guard {f : Fl} {d : Option Nat} {t : Nat} {want : Bool} {s : AStm} {r : List (Fl × AItem)} {K : Env → Store → Prop} : regO P ((f, ⟨d, some (t, want), s⟩) :: r) E S K =
    guardV E t (E.get t) want (fun E => itemO P f s E.get S fun v S' => regO P r (E.put d v) S' K) (fun E => regO P r (E.put d .skipped) S K) := by simp only [regO, guardA, guardV]; rfl
theorem io_loud {s : AStm} {K : V → Store → Prop} : itemO P .loud s e S K = stmA P s e S K := by simp only [itemO]
theorem gr_p {op : AOp} {v : V} : growA P (.p op) e S v = True := by simp only [growA]
theorem sb_mv {x : Opd} {v : V} : stableA P (.p (.mv x)) e v = True := by simp [stableA, AOp.free]
theorem sb_pick {a b c : Opd} {v : V} : stableA P (.p (.pick a b c)) e v = True := by simp [stableA, AOp.free]
theorem sb_bin {op : BinOp} {x y : Opd} {v : V} : stableA P (.p (.bin op x y)) e v = True := by simp [stableA, AOp.free]
theorem sb_eqb {n : Bool} {x y : Opd} {v : V} : stableA P (.p (.eqb n x y)) e v = True := by simp [stableA, AOp.free]
theorem sb_not {x : Opd} {v : V} : stableA P (.p (.not x)) e v = True := by simp [stableA, AOp.free]
theorem sb_neg {x : Opd} {v : V} : stableA P (.p (.neg x)) e v = True := by simp [stableA, AOp.free]
theorem sb_lenS {x : Opd} {v : V} : stableA P (.p (.lenS x)) e v = True := by simp [stableA, AOp.free]
theorem sb_idxS {x y : Opd} {v : V} : stableA P (.p (.idxS x y)) e v = True := by simp [stableA, AOp.free]
theorem sb_fld1 {n : Nat} {x : Opd} {v : V} : stableA P (.p (.fld1 n x)) e v = True := by simp [stableA, AOp.free]
theorem sb_fldn {n m : Nat} {x : Opd} {v : V} : stableA P (.p (.fldn n m x)) e v = True := by simp [stableA, AOp.free]
theorem sb_conv {k : IntKind} {x : Opd} {v : V} : stableA P (.p (.conv k x)) e v = True := by simp [stableA, AOp.free]
theorem sb_ext {n : Nat} {x : Opd} {v : V} : stableA P (.p (.ext n x)) e v = True := by simp [stableA, AOp.free]
theorem sb_build {z : List V} {p : List (Nat × Nat × Opd)} {v : V} : stableA P (.p (.build z p)) e v = True := by simp [stableA, AOp.free]
theorem sb_bsl {n m : Nat} {z : List V} {p : List (Nat × Opd)} {v : V} : stableA P (.p (.bsl n z m p)) e v = True := by simp [stableA, AOp.free]
theorem sb_boxI {x : Opd} {v : V} : stableA P (.p (.boxI x)) e v = True := by simp [stableA, AOp.free]
theorem sb_mkfn {f : FuncId} {a b : List Opd} {v : V} : stableA P (.p (.mkfn f a b)) e v = True := by simp [stableA, AOp.free]
theorem sb_slS {x : Opd} {a b : Option Opd} {v : V} : stableA P (.p (.slS x a b)) e v = True := by simp [stableA, AOp.free]
theorem sb_minmax {m : Bool} {x y : Opd} {v : V} : stableA P (.p (.minmax m x y)) e v = True := by simp [stableA, AOp.free]
theorem sb_mkIf {t : TypeId} {x : Opd} {v : V} : stableA P (.p (.mkIf t x)) e v = True := by simp [stableA, AOp.free]
theorem sb_tas {t : TypeId} {z : V} {o : Bool} {x : Opd} {v : V} : stableA P (.p (.tas t z o x)) e v = True := by simp [stableA, AOp.free]
theorem sb_lenA {x : Opd} {v : V} : stableA P (.p (.lenA x)) e v = ∀ S, opV e S (.lenA x) = some v := by simp [stableA, AOp.free]
theorem sb_idxA {n : Nat} {x y : Opd} {v : V} : stableA P (.p (.idxA n x y)) e v = ∀ S, opV e S (.idxA n x y) = some v := by simp [stableA, AOp.free]
theorem sb_idxR {m n : Nat} {x y : Opd} {v : V} : stableA P (.p (.idxR m n x y)) e v = ∀ S, opV e S (.idxR m n x y) = some v := by simp [stableA, AOp.free]
theorem sb_idxV {n : Nat} {x y : Opd} {v : V} : stableA P (.p (.idxV n x y)) e v = True := by simp [stableA, AOp.free]
theorem sb_faddr {n : Nat} {x : Opd} {v : V} : stableA P (.p (.faddr n x)) e v = ∀ S, opV e S (.faddr n x) = some v := by simp [stableA, AOp.free]
theorem sb_ld1 {x : Opd} {v : V} : stableA P (.p (.ld1 x)) e v = ∀ S, opV e S (.ld1 x) = some v := by simp [stableA, AOp.free]
theorem sb_ldn {n : Nat} {x : Opd} {v : V} : stableA P (.p (.ldn n x)) e v = ∀ S, opV e S (.ldn n x) = some v := by simp [stableA, AOp.free]
theorem sb_slA {n : Nat} {x : Opd} {a b : Option Opd} {v : V} : stableA P (.p (.slA n x a b)) e v = ∀ S, opV e S (.slA n x a b) = some v := by simp [stableA, AOp.free]
theorem sb_nilChk {x : Opd} {v : V} : stableA P (.p (.nilChk x)) e v = ∀ S, opV e S (.nilChk x) = some v := by simp [stableA, AOp.free]
theorem sb_isNil {k : Nat} {n : Bool} {x : Opd} {v : V} : stableA P (.p (.isNil k n x)) e v = ∀ S, opV e S (.isNil k n x) = some v := by simp [stableA, AOp.free]
theorem sb_b2s {x : Opd} {v : V} : stableA P (.p (.b2s x)) e v = ∀ S, opV e S (.b2s x) = some v := by simp [stableA, AOp.free]
theorem sb_xo {op : XOp} {l : List Opd} {v : V} : stableA P (.p (.xo op l)) e v = ∀ S, opV e S (.xo op l) = some v := by simp [stableA, AOp.free]
theorem sb_call {f : FuncId} {l : List Opd} {v : V} : stableA P (.call f l) e v = ∀ S, CallA P f (evs e l) S (fun r S' => r = v ∧ S' = S) := by simp only [stableA]
def pureD (v : Option V) (K : V → Prop) : Prop := match v with
  | some v => K v
  | none => False
theorem sd_p {op : AOp} {K : V → Prop} : stmD P (.p op) e S K = pureD (opV e S op) K := by simp only [stmD, pureD]; rfl
def callD (P : Program) (v : V) (l : List V) (S : Store) (K : V → Prop) : Prop := match v with
  | .func f first cap => ∃ v, CallA P f (first ++ l ++ cap) S (fun r S' => r = v ∧ S' = S) ∧ K v
  | _ => False
theorem sd_callv {l : List Opd} {K : V → Prop} : stmD P (.callv x l) e S K = callD P (ev e x) (evs e l) S K := by simp only [stmD, callD]; rfl
theorem pd_some {v : V} {K : V → Prop} : pureD (some v) K = K v := by simp only [pureD]
theorem pd_none {K : V → Prop} : pureD none K = False := by simp only [pureD]
theorem s_p {op : AOp} {K : V → Store → Prop} : stmA P (.p op) e S K = pureK (opV e S op) S K := by simp only [stmA]
theorem s_call {f : FuncId} {l : List Opd} {K : V → Store → Prop} : stmA P (.call f l) e S K = CallA P f (evs e l) S K := by simp only [stmA]
def callK (P : Program) (v : V) (l : List V) (S : Store) (K : V → Store → Prop) : Prop := match v with
  | .func f first cap => CallA P f (first ++ l ++ cap) S K
  | _ => False
theorem s_callv {l : List Opd} {K : V → Store → Prop} : stmA P (.callv x l) e S K = callK P (ev e x) (evs e l) S K := by simp only [stmA, callK]; rfl
theorem callK_func {f : FuncId} {a b l : List V} {K : V → Store → Prop} : callK P (.func f a b) l S K = CallA P f (a ++ l ++ b) S K := by simp only [callK]
def boxK (t : TypeId) (o : Option (List V)) (S : Store) (K : V → Store → Prop) : Prop := match o with
  | some vs => K (.ptr S.length 0 0 0) (S ++ [⟨0, some (.arr t vs.length [vs])⟩])
  | none => False
theorem s_boxO {t : TypeId} {K : V → Store → Prop} : stmA P (.boxO t x) e S K = boxK t (ev e x).cells? S K := by simp only [stmA, boxK]; rfl
theorem boxK_some {t : TypeId} {vs : List V} {K : V → Store → Prop} : boxK t (some vs) S K = K (.ptr S.length 0 0 0) (S ++ [⟨0, some (.arr t vs.length [vs])⟩]) := by simp only [boxK]
theorem s_newO {t : TypeId} {z : List V} {K : V → Store → Prop} : stmA P (.newO t z) e S K = K (.ptr S.length 0 0 0) (S ++ [⟨0, some (.arr t z.length [z])⟩]) := by simp only [stmA]
def bslK (q : TypeId) (sz n : Nat) (o : Option (List (List V))) (S : Store) (K : V → Store → Prop) : Prop := match o with
  | some rows => K (.msl S.length 0 0 n) (S ++ [⟨0, some (.arr q sz rows)⟩])
  | none => False
theorem s_bslO {q : TypeId} {sz n : Nat} {z : List V} {ps : List (Nat × Opd)} {K : V → Store → Prop} : stmA P (.bslO q sz z n ps) e S K = bslK q sz n (fillR e sz (zrows z n) ps) S K := by simp only [stmA, bslK]; rfl
theorem bslK_some {q : TypeId} {sz n : Nat} {rows : List (List V)} {K : V → Store → Prop} : bslK q sz n (some rows) S K = K (.msl S.length 0 0 n) (S ++ [⟨0, some (.arr q sz rows)⟩]) := by simp only [bslK]
theorem s_st {n : Nat} {K : V → Store → Prop} : stmA P (.st n x y) e S K = stK n (ev e x) (ev e y).cells? S K := by simp only [stmA]
theorem s_nilD {neg : Bool} {K : V → Store → Prop} : stmA P (.nilD neg x) e S K = nilDK neg (ev e x) S K := by simp only [stmA]
theorem nd_sl {neg : Bool} {sz : Nat} {K : V → Store → Prop} : nilDK neg (.sl sz []) S K = (K (.bool true) S ∧ K (.bool false) S) := by simp only [nilDK]
theorem nd_slc {neg : Bool} {sz : Nat} {r : List V} {rows : List (List V)} {K : V → Store → Prop} : nilDK neg (.sl sz (r :: rows)) S K = K (.bool neg) S := by cases neg <;> simp [nilDK, nilV]
theorem nd_nil {neg : Bool} {K : V → Store → Prop} : nilDK neg .nilSl S K = K (.bool (!neg)) S := by cases neg <;> simp [nilDK, nilV]
@[congr] theorem nilDK_congr {neg : Bool} {v v' : V} {K : V → Store → Prop} (h : v = v') : nilDK neg v S K = nilDK neg v' S K := by rw [h]
def clipO (o : Option (TypeId × Nat × List (List V))) (sz id ver : Nat) (b c : Int) (len : Nat) (S : Store) (K : V → Store → Prop) : Prop := match o with
  | some (t, sz', rows) => sz' = sz ∧ 0 ≤ b ∧ b ≤ c ∧ c ≤ len ∧ K (.msl id (ver + 1) 0 b.toNat) (S.set id ⟨ver + 1, some (.arr t sz' (rows.take b.toNat))⟩)
  | none => False
theorem xs_clipm {sz id ver len : Nat} {k k' : IntKind} {b c : Int} {K : V → Store → Prop} : xstmA (.clip sz) [.msl id ver 0 len, .int k b, .int k' c] S K = clipO (S.obj? id ver) sz id ver b c len S K := by
  simp only [xstmA, clipK, clipO]
  cases S.obj? id ver <;> simp
theorem clipO_some {t : TypeId} {sz id ver len : Nat} {rows : List (List V)} {b c : Int} {K : V → Store → Prop} : clipO (some (t, sz, rows)) sz id ver b c len S K = (0 ≤ b ∧ b ≤ c ∧ c ≤ len ∧ K (.msl id (ver + 1) 0 b.toNat) (S.set id ⟨ver + 1, some (.arr t sz (rows.take b.toNat))⟩)) := by simp only [clipO, true_and]
@[congr] theorem clipO_congr {o o' : Option (TypeId × Nat × List (List V))} {sz id ver len : Nat} {b c : Int} {K : V → Store → Prop} (h : o = o') : clipO o sz id ver b c len S K = clipO o' sz id ver b c len S K := by rw [h]
theorem xs_clipn {sz : Nat} {k k' : IntKind} {b c : Int} {K : V → Store → Prop} : xstmA (.clip sz) [.nilSl, .int k b, .int k' c] S K = (b = 0 ∧ c = 0 ∧ K .nilSl S) := by simp only [xstmA, clipK]
theorem s_xs {op : XStm} {l : List Opd} {K : V → Store → Prop} : stmA P (.xs op l) e S K = xstmA op (evs e l) S K := by simp only [stmA]
theorem xs_uStr {q : TypeId} {x n : V} {K : V → Store → Prop} : xstmA (.uStr q) [x, n] S K = uStrK q x n S K := by simp only [xstmA]
theorem xs_mkM {kd : KD} {K : V → Store → Prop} : xstmA (.mkM kd) [] S K = K (.mapv S.length 0) (S ++ [⟨0, some (.mp ⟨kd, [], .free⟩)⟩]) := by simp only [xstmA, mkMK]
theorem xs_mkMi {kd : KD} {k : IntKind} {n : Int} {K : V → Store → Prop} : xstmA (.mkM kd) [.int k n] S K = K (.mapv S.length 0) (S ++ [⟨0, some (.mp ⟨kd, [], .free⟩)⟩]) := by simp only [xstmA, mkMK]
theorem xs_mu {kd : KD} {m k v : V} {K : V → Store → Prop} : xstmA (.mu kd) [m, k, v] S K = muK kd m k .skipped (putV k v) S K := by simp only [xstmA]
theorem xs_mdel {kd : KD} {m k : V} {K : V → Store → Prop} : xstmA (.mdel kd) [m, k] S K = muK kd m k (.tup []) (delV k) S K := by simp only [xstmA]
theorem xs_mclr {m : V} {K : V → Store → Prop} : xstmA .mclr [m] S K = mclrK m S K := by simp only [xstmA]
def muO (o : Option (KD × List (V × V) × MX)) (id ver : Nat) (kd : KD) (k : V) (r : V) (f : List (V × V) → List (V × V)) (S : Store) (K : V → Store → Prop) : Prop := match o with
  | some (kd', rows, x) => x = .free ∧ kd' = kd ∧ isKV kd k = true ∧ K r (S.set id ⟨ver, some (.mp ⟨kd, f rows, .free⟩)⟩)
  | none => False
theorem mu_mapv {kd : KD} {id ver : Nat} {k r : V} {f : List (V × V) → List (V × V)} {K : V → Store → Prop} : muK kd (.mapv id ver) k r f S K = muO (S.mp? id ver) id ver kd k r f S K := by simp only [muK, muO]; rfl
theorem muO_some {kd kd' : KD} {rows : List (V × V)} {id ver : Nat} {k r : V} {f : List (V × V) → List (V × V)} {K : V → Store → Prop} : muO (some (kd', rows, .free)) id ver kd k r f S K = (kd' = kd ∧ isKV kd k = true ∧ K r (S.set id ⟨ver, some (.mp ⟨kd, f rows, .free⟩)⟩)) := by simp only [muO, true_and]
@[congr] theorem muO_congr {o o' : Option (KD × List (V × V) × MX)} {id ver : Nat} {kd : KD} {k r : V} {f : List (V × V) → List (V × V)} {K : V → Store → Prop} (h : o = o') : muO o id ver kd k r f S K = muO o' id ver kd k r f S K := by rw [h]
def mclrO (o : Option (KD × List (V × V) × MX)) (id ver : Nat) (S : Store) (K : V → Store → Prop) : Prop := match o with
  | some (kd, _, x) => x = .free ∧ K (.tup []) (S.set id ⟨ver, some (.mp ⟨kd, [], .free⟩)⟩)
  | none => False
theorem xs_mEnt {kd : KD} {zero m k : V} {K : V → Store → Prop} : xstmA (.mEnt kd zero) [m, k] S K = mEntK kd zero m k S K := by simp only [xstmA]
def mEntO (o : Option (KD × List (V × V) × MX)) (id ver : Nat) (kd : KD) (zero k : V) (S : Store) (K : V → Store → Prop) : Prop := match o with
  | some (kd', rows, x) => x = .free ∧ kd' = kd ∧ isKV kd k = true ∧
        ∀ (j n : Nat) (p : V × V), (putV k ((findV k rows).getD zero) rows)[j]? = some p → eqKV k p.1 = true → (∀ (i : Nat) (q : V × V), i < j → (putV k ((findV k rows).getD zero) rows)[i]? = some q → eqKV k q.1 = false) →
          K (.tup [(findV k rows).getD zero, .int .i64 n]) (S.set id ⟨ver, some (.mp ⟨kd, putV k ((findV k rows).getD zero) rows, .opened j n⟩)⟩)
  | none => False
theorem mEnt_mapv {kd : KD} {zero k : V} {id ver : Nat} {K : V → Store → Prop} : mEntK kd zero (.mapv id ver) k S K = mEntO (S.mp? id ver) id ver kd zero k S K := by simp only [mEntK, mEntO]; rfl
@[congr] theorem mEntO_congr {o o' : Option (KD × List (V × V) × MX)} {id ver : Nat} {kd : KD} {zero k : V} {K : V → Store → Prop} (h : o = o') : mEntO o id ver kd zero k S K = mEntO o' id ver kd zero k S K := by rw [h]
def mStoO (o : Option (KD × List (V × V) × MX)) (id ver : Nat) (n' : Int) (v : V) (S : Store) (K : V → Store → Prop) : Prop := match o with
  | some (kd, rows, .opened j n) => n' = (n : Int) ∧ K .skipped (S.set id ⟨ver, some (.mp ⟨kd, rows.modify j (fun p => (p.1, v)), .free⟩)⟩)
  | _ => False
theorem mSto_mapv {id ver : Nat} {n' : Int} {v : V} {K : V → Store → Prop} : mStoK (.mapv id ver) (.int .i64 n') v S K = mStoO (S.mp? id ver) id ver n' v S K := by simp only [mStoK, mStoO]; rfl
theorem mStoO_some {id ver : Nat} {kd : KD} {rows : List (V × V)} {j n : Nat} {v : V} {K : V → Store → Prop} : mStoO (some (kd, rows, .opened j n)) id ver (n : Nat) v S K = K .skipped (S.set id ⟨ver, some (.mp ⟨kd, rows.modify j (fun p => (p.1, v)), .free⟩)⟩) := by simp only [mStoO, true_and]
@[congr] theorem mStoO_congr {o o' : Option (KD × List (V × V) × MX)} {id ver : Nat} {n' : Int} {v : V} {K : V → Store → Prop} (h : o = o') : mStoO o id ver n' v S K = mStoO o' id ver n' v S K := by rw [h]
theorem xs_mSto {m s v : V} {K : V → Store → Prop} : xstmA .mSto [m, s, v] S K = mStoK m s v S K := by simp only [xstmA]
theorem xs_range {m : V} {K : V → Store → Prop} : xstmA .range [m] S K = rangeK m S K := by simp only [xstmA]
theorem range_nil {K : V → Store → Prop} : rangeK .nilMap S K = K (.mapv S.length 0) (S ++ [⟨0, some (.mp ⟨.st [], [], .iter none none⟩)⟩]) := by simp only [rangeK]
def rangeO (o : Option (KD × List (V × V) × MX)) (id ver : Nat) (S : Store) (K : V → Store → Prop) : Prop := match o with
  | some (kd, rows, x) => x = .free ∧ K (.mapv S.length 0) ((S.set id ⟨ver, some (.mp ⟨kd, rows, .held S.length⟩)⟩) ++ [⟨0, some (.mp ⟨kd, rows, .iter (some (id, ver)) none⟩)⟩])
  | none => False
theorem range_mapv {id ver : Nat} {K : V → Store → Prop} : rangeK (.mapv id ver) S K = rangeO (S.mp? id ver) id ver S K := by simp only [rangeK, rangeO]; rfl
theorem rangeO_some {id ver : Nat} {kd : KD} {rows : List (V × V)} {K : V → Store → Prop} : rangeO (some (kd, rows, .free)) id ver S K = K (.mapv S.length 0) ((S.set id ⟨ver, some (.mp ⟨kd, rows, .held S.length⟩)⟩) ++ [⟨0, some (.mp ⟨kd, rows, .iter (some (id, ver)) none⟩)⟩]) := by simp only [rangeO, true_and]
@[congr] theorem rangeO_congr {o o' : Option (KD × List (V × V) × MX)} {id ver : Nat} {K : V → Store → Prop} (h : o = o') : rangeO o id ver S K = rangeO o' id ver S K := by rw [h]
theorem xs_next {m : V} {K : V → Store → Prop} : xstmA .next [m] S K = nextK m S K := by simp only [xstmA]
def nextO2 (o : Option (KD × List (V × V) × MX)) (it iver id ver : Nat) (kd : KD) (rest : List (V × V)) (S : Store) (K : V → Store → Prop) : Prop := match o with
  | some (kd', rows, .held it') => it' = it ∧ (rest = [] → K (.tup [.bool false]) (S.set id ⟨ver, some (.mp ⟨kd', rows, .free⟩)⟩)) ∧
          ∀ (p : V × V) (rest' : List (V × V)), rest.Perm (p :: rest') → K (.tup [.bool true, p.1, p.2]) (S.set it ⟨iver, some (.mp ⟨kd, rest', .iter (some (id, ver)) (some p)⟩)⟩)
  | _ => False
def nextO (o : Option (KD × List (V × V) × MX)) (it iver : Nat) (S : Store) (K : V → Store → Prop) : Prop := match o with
  | some (_, _, .iter none _) => K (.tup [.bool false]) S
  | some (kd, rest, .iter (some (id, ver)) _) => nextO2 (S.mp? id ver) it iver id ver kd rest S K
  | _ => False
theorem next_mapv {it iver : Nat} {K : V → Store → Prop} : nextK (.mapv it iver) S K = nextO (S.mp? it iver) it iver S K := by simp only [nextK, nextO, nextO2]; rfl
theorem nextO_nil {it iver : Nat} {kd : KD} {rows : List (V × V)} {c : Option (V × V)} {K : V → Store → Prop} : nextO (some (kd, rows, .iter none c)) it iver S K = K (.tup [.bool false]) S := by simp only [nextO]
theorem nextO_some {it iver id ver : Nat} {kd : KD} {rest : List (V × V)} {c : Option (V × V)} {K : V → Store → Prop} : nextO (some (kd, rest, .iter (some (id, ver)) c)) it iver S K = nextO2 (S.mp? id ver) it iver id ver kd rest S K := by simp only [nextO]
@[congr] theorem nextO_congr {o o' : Option (KD × List (V × V) × MX)} {it iver : Nat} {K : V → Store → Prop} (h : o = o') : nextO o it iver S K = nextO o' it iver S K := by rw [h]
@[congr] theorem nextO2_congr {o o' : Option (KD × List (V × V) × MX)} {it iver id ver : Nat} {kd : KD} {rest : List (V × V)} {K : V → Store → Prop} (h : o = o') : nextO2 o it iver id ver kd rest S K = nextO2 o' it iver id ver kd rest S K := by rw [h]
theorem mclr_mapv {id ver : Nat} {K : V → Store → Prop} : mclrK (.mapv id ver) S K = mclrO (S.mp? id ver) id ver S K := by simp only [mclrK, mclrO]; rfl
theorem mclrO_some {kd : KD} {rows : List (V × V)} {id ver : Nat} {K : V → Store → Prop} : mclrO (some (kd, rows, .free)) id ver S K = K (.tup []) (S.set id ⟨ver, some (.mp ⟨kd, [], .free⟩)⟩) := by simp only [mclrO, true_and]
@[congr] theorem mclrO_congr {o o' : Option (KD × List (V × V) × MX)} {id ver : Nat} {K : V → Store → Prop} (h : o = o') : mclrO o id ver S K = mclrO o' id ver S K := by rw [h]
theorem k1_int {k k' : IntKind} {n : Int} : isK1 (.int k) (.int k' n) = decide (k = k') := by simp only [isK1]
theorem k1_str {l : List UInt8} : isK1 .str (.str l) = true := by simp only [isK1]
theorem kv_one {k : KD1} {v : V} : isKV (.one k) v = isK1 k v := by simp only [isKV]
theorem kv_st {l : List KD1} {vs : List V} : isKV (.st l) (.agg vs) = isKL l vs := by simp only [isKV]
theorem kl_nil : isKL [] [] = true := by simp only [isKL]
theorem kl_cons {k : KD1} {l : List KD1} {v : V} {vs : List V} : isKL (k :: l) (v :: vs) = (isK1 k v && isKL l vs) := by simp only [isKL]
theorem e1_int {k k' : IntKind} {a b : Int} : eqK1 (.int k a) (.int k' b) = (decide (k = k') && decide (a = b)) := by simp only [eqK1]
theorem e1_str {a b : List UInt8} : eqK1 (.str a) (.str b) = decide (a = b) := by simp only [eqK1]
theorem el_nil : eqKL [] [] = true := by simp only [eqKL]
theorem el_cons {a b : V} {l m : List V} : eqKL (a :: l) (b :: m) = (eqK1 a b && eqKL l m) := by simp only [eqKL]
theorem w_stuck : wpA P N σ .stuck Q E S = False := by simp only [wpA]
theorem s_appS {q : TypeId} {K : V → Store → Prop} : stmA P (.appS q x y) e S K = appK q 1 (ev e x) (srcS (ev e y)) S K := by simp only [stmA]
theorem src_str {l : List UInt8} : srcS (.str l) = some (1, strRows l) := by simp only [srcS]
def stR (q : Option (List V)) (t : TypeId) (sz : Nat) (rows : List (List V)) (n id ver row off : Nat) (vs : List V) (S : Store) (K : V → Store → Prop) : Prop := match q with
  | some r => vs.length = n ∧ off + n ≤ r.length ∧ K .skipped (S.set id ⟨ver, some (.arr t sz (rows.set row (splice r off vs)))⟩)
  | none => False
def stO (o : Option (TypeId × Nat × List (List V))) (n id ver row off : Nat) (vs : List V) (S : Store) (K : V → Store → Prop) : Prop := match o with
  | some (t, sz, rows) => stR rows[row]? t sz rows n id ver row off vs S K
  | none => False
theorem st_ptr {n id ver row off : Nat} {vs : List V} {K : V → Store → Prop} : stK n (.ptr id ver row off) (some vs) S K = stO (S.obj? id ver) n id ver row off vs S K := by simp only [stK, stO, stR]; rfl
theorem stO_some {n id ver row off sz : Nat} {t : TypeId} {rows : List (List V)} {vs : List V} {K : V → Store → Prop} : stO (some (t, sz, rows)) n id ver row off vs S K = stR rows[row]? t sz rows n id ver row off vs S K := by simp only [stO]
theorem stR_some {n id ver row off sz : Nat} {t : TypeId} {rows : List (List V)} {r vs : List V} {K : V → Store → Prop} : stR (some r) t sz rows n id ver row off vs S K = (vs.length = n ∧ off + n ≤ r.length ∧ K .skipped (S.set id ⟨ver, some (.arr t sz (rows.set row (splice r off vs)))⟩)) := by simp only [stR]
@[congr] theorem stO_congr {o o' : Option (TypeId × Nat × List (List V))} {n id ver row off : Nat} {vs : List V} {K : V → Store → Prop} (h : o = o') : stO o n id ver row off vs S K = stO o' n id ver row off vs S K := by rw [h]
@[congr] theorem stR_congr {q q' : Option (List V)} {n id ver row off sz : Nat} {t : TypeId} {rows : List (List V)} {vs : List V} {K : V → Store → Prop} (h : q = q') : stR q t sz rows n id ver row off vs S K = stR q' t sz rows n id ver row off vs S K := by rw [h]
theorem s_app {q : TypeId} {sz : Nat} {K : V → Store → Prop} : stmA P (.app q sz x y) e S K = appK q sz (ev e x) (srcOf S sz (ev e y)) S K := by simp only [stmA]
theorem src_nil {sz : Nat} : srcOf S sz .nilSl = some (sz, []) := by simp only [srcOf]
theorem src_sl {sz sz' : Nat} {rows : List (List V)} : srcOf S sz (.sl sz' rows) = some (sz', rows) := by simp only [srcOf, srcRows]
def srcO (o : Option (TypeId × Nat × List (List V))) (off len : Nat) : Option (Nat × List (List V)) := match o with
  | some (_, sz, rows) => some (sz, (rows.drop off).take len)
  | none => none
theorem src_msl {sz id ver off len : Nat} : srcOf S sz (.msl id ver off len) = srcO (S.obj? id ver) off len := by
  simp only [srcOf, srcRows, srcO]
  cases S.obj? id ver <;> rfl
theorem srcO_some {off len sz : Nat} {t : TypeId} {rows : List (List V)} : srcO (some (t, sz, rows)) off len = some (sz, (rows.drop off).take len) := by simp only [srcO]
theorem app_nil {q : TypeId} {sz : Nat} {rs : List (List V)} {K : V → Store → Prop} : appK q sz .nilSl (some (sz, rs)) S K = (rs.length ≤ roomA ∧ K (.msl S.length 0 0 rs.length) (S ++ [⟨0, some (.arr q sz rs)⟩])) := by simp only [appK, true_and]
def appO (o : Option (TypeId × Nat × List (List V))) (q : TypeId) (sz id ver len : Nat) (rs : List (List V)) (S : Store) (K : V → Store → Prop) : Prop := match o with
  | some (t, sz', rows) => t = q ∧ sz' = sz ∧ rows.length = len ∧ len + rs.length ≤ roomA ∧ K (.msl id (ver + 1) 0 (len + rs.length)) (S.set id ⟨ver + 1, some (.arr q sz (rows ++ rs))⟩)
  | none => False
theorem app_msl {q : TypeId} {sz id ver len : Nat} {rs : List (List V)} {K : V → Store → Prop} : appK q sz (.msl id ver 0 len) (some (sz, rs)) S K = appO (S.obj? id ver) q sz id ver len rs S K := by
  simp only [appK, appO]
  cases S.obj? id ver <;> simp
theorem appO_some {q : TypeId} {sz id ver len : Nat} {rows rs : List (List V)} {K : V → Store → Prop} :
    appO (some (q, sz, rows)) q sz id ver len rs S K = (rows.length = len ∧ len + rs.length ≤ roomA ∧ K (.msl id (ver + 1) 0 (len + rs.length)) (S.set id ⟨ver + 1, some (.arr q sz (rows ++ rs))⟩)) := by simp only [appO, true_and]
@[congr] theorem appO_congr {o o' : Option (TypeId × Nat × List (List V))} {q : TypeId} {sz id ver len : Nat} {rs : List (List V)} {K : V → Store → Prop} (h : o = o') : appO o q sz id ver len rs S K = appO o' q sz id ver len rs S K := by rw [h]
theorem s_mksl {q : TypeId} {sz : Nat} {z : List V} {K : V → Store → Prop} : stmA P (.mksl q sz z x y) e S K = mkK q sz z (ev e x) (ev e y) S K := by simp only [stmA]
theorem mk_int {q : TypeId} {sz : Nat} {z : List V} {k k' : IntKind} {n m : Int} {K : V → Store → Prop} : mkK q sz z (.int k n) (.int k' m) S K = (0 ≤ n ∧ n ≤ m ∧ m ≤ (roomA : Int) ∧ K (.msl S.length 0 0 n.toNat) (S ++ [⟨0, some (.arr q sz (zrows z n.toNat))⟩])) := by simp only [mkK]
theorem pk_some {v : V} {K : V → Store → Prop} : pureK (some v) S K = K v S := by simp only [pureK]
theorem pk_none {K : V → Store → Prop} : pureK none S K = False := by simp only [pureK]
@[congr] theorem pureK_congr {v v' : Option V} {S : Store} {K : V → Store → Prop} (h : v = v') : pureK v S K = pureK v' S K := by rw [h]
@[congr] theorem pureD_congr {v v' : Option V} {K : V → Prop} (h : v = v') : pureD v K = pureD v' K := by rw [h]
@[congr] theorem condA_congr {v v' : V} {x y : Prop} (h : v = v') : condA v x y = condA v' x y := by rw [h]
@[congr] theorem guardV_congr {t : Nat} {v v' : V} {want : Bool} {a b : Env → Prop} (h : v = v') : guardV E t v want a b = guardV E t v' want a b := by rw [h]
@[congr] theorem CallA_congr {f : FuncId} {l l' : List V} {R : V → Store → Prop} (h : l = l') : CallA P f l S R = CallA P f l' S R := by rw [h]
@[congr] theorem LoopA_congr {b : ACode} {Q : Exit → Env → Store → Prop} {E E' : Env} {S : Store} (h : E = E') : LoopA P N σ b Q E S = LoopA P N σ b Q E' S := by rw [h]
@[congr] theorem callK_congr {v v' : V} {l l' : List V} {K : V → Store → Prop} (h : v = v') (h' : l = l') : callK P v l S K = callK P v' l' S K := by rw [h, h']
@[congr] theorem callD_congr {v v' : V} {l l' : List V} {K : V → Prop} (h : v = v') (h' : l = l') : callD P v l S K = callD P v' l' S K := by rw [h, h']
@[congr] theorem boxK_congr {t : TypeId} {o o' : Option (List V)} {K : V → Store → Prop} (h : o = o') : boxK t o S K = boxK t o' S K := by rw [h]
@[congr] theorem bslK_congr {q : TypeId} {sz n : Nat} {o o' : Option (List (List V))} {K : V → Store → Prop} (h : o = o') : bslK q sz n o S K = bslK q sz n o' S K := by rw [h]
@[congr] theorem stK_congr {n : Nat} {p p' : V} {o o' : Option (List V)} {K : V → Store → Prop} (h : p = p') (h' : o = o') : stK n p o S K = stK n p' o' S K := by rw [h, h']
@[congr] theorem appK_congr {q : TypeId} {sz : Nat} {p p' : V} {o o' : Option (Nat × List (List V))} {K : V → Store → Prop} (h : p = p') (h' : o = o') : appK q sz p o S K = appK q sz p' o' S K := by rw [h, h']
@[congr] theorem mkK_congr {q : TypeId} {sz : Nat} {z : List V} {p p' o o' : V} {K : V → Store → Prop} (h : p = p') (h' : o = o') : mkK q sz z p o S K = mkK q sz z p' o' S K := by rw [h, h']
theorem c_bool {b : Bool} {p q : Prop} : condA (.bool b) p q = if b = true then p else q := by cases b <;> simp [condA]
theorem t_normal {K : Env → Store → Prop} : thenA K Q .normal E S = K E S := by simp only [thenA]
theorem t_exit {K : Env → Store → Prop} {i : Nat} : thenA K Q (.exit i) E S = Q (.exit i) E S := by simp only [thenA]
theorem t_ret {K : Env → Store → Prop} : thenA K Q .ret E S = Q .ret E S := by simp only [thenA]
theorem b_normal {i : Nat} : blockA i Q .normal E S = Q .normal E S := by simp only [blockA]
theorem b_exit {i j : Nat} : blockA i Q (.exit j) E S = if j = i then Q .normal E S else Q (.exit j) E S := by simp only [blockA]
theorem b_ret {i : Nat} : blockA i Q .ret E S = Q .ret E S := by simp only [blockA]
theorem k_ret {res : List RS} {R : V → Store → Prop} : retK res R .ret E S = resC E.get S R res [] := by simp only [retK]
theorem k_normal {res : List RS} {R : V → Store → Prop} : retK res R .normal E S = resC E.get S R res [] := by simp only [retK]
theorem k_exit {res : List RS} {R : V → Store → Prop} {i : Nat} : retK res R (.exit i) E S = False := by simp only [retK]
def resP (o : Option V) (e : Nat → V) (S : Store) (R : V → Store → Prop) (rs : List RS) (acc : List V) : Prop := match o with
  | some v => resC e S R rs (acc ++ [v])
  | none => False
theorem c_tmp {t : Nat} {R : V → Store → Prop} {rs : List RS} {acc : List V} : resC e S R (.tmp t :: rs) acc = resC e S R rs (acc ++ [e t]) := by simp only [resC, rsV]
theorem c_cell1 {t : Nat} {R : V → Store → Prop} {rs : List RS} {acc : List V} : resC e S R (.cell t none :: rs) acc = resP (opV e S (.ld1 (.t t))) e S R rs acc := by simp only [resC, rsV, resP]; rfl
theorem c_celln {t n : Nat} {R : V → Store → Prop} {rs : List RS} {acc : List V} : resC e S R (.cell t (some n) :: rs) acc = resP (opV e S (.ldn n (.t t))) e S R rs acc := by simp only [resC, rsV, resP]; rfl
theorem c_some {v : V} {R : V → Store → Prop} {rs : List RS} {acc : List V} : resP (some v) e S R rs acc = resC e S R rs (acc ++ [v]) := by simp only [resP]
@[congr] theorem resP_congr {o o' : Option V} {R : V → Store → Prop} {rs : List RS} {acc : List V} (h : o = o') : resP o e S R rs acc = resP o' e S R rs acc := by rw [h]
theorem c_nil0 {R : V → Store → Prop} : resC e S R [] [] = R (.tup []) S := by simp only [resC, tupOf]
theorem c_nil1 {v : V} {R : V → Store → Prop} : resC e S R [] [v] = R v S := by simp only [resC, tupOf]
theorem c_nil2 {v u : V} {l : List V} {R : V → Store → Prop} : resC e S R [] (v :: u :: l) = R (.tup (v :: u :: l)) S := by simp only [resC, tupOf]
theorem ev_t {n : Nat} : ev e (.t n) = e n := by simp only [ev]
theorem ev_c {v : V} : ev e (.c v) = v := by simp only [ev]
theorem evs_nil : evs e [] = [] := by simp only [evs, List.map_nil]
theorem evs_cons {r : List Opd} : evs e (x :: r) = ev e x :: evs e r := by simp only [evs, List.map_cons]
theorem get_cons {k t : Nat} {v : V} {r : Env} : Env.get ((k, v) :: r) t = if t = k then v else Env.get r t := by simp only [Env.get]
theorem get_nil {t : Nat} : Env.get [] t = .undef := by simp only [Env.get]
theorem put_some {d : Nat} {v : V} : Env.put E (some d) v = (d, v) :: E := by simp only [Env.put]
theorem put_none {v : V} : Env.put E none v = E := by simp only [Env.put]
theorem argEnv_nil {k : Nat} : argEnv k [] = [] := by simp only [argEnv]
theorem argEnv_cons {k : Nat} {v : V} {r : List V} : argEnv k (v :: r) = (k, v) :: argEnv (k + 1) r := by simp only [argEnv]
theorem sub_nil : sub [] E = True := by simp only [sub]
theorem sub_cons {k : Nat} {v : V} {r : Env} : sub ((k, v) :: r) E = (E.get k = v ∧ sub r E) := by simp only [sub]
theorem o_mv : opV e S (.mv x) = some (ev e x) := by simp only [opV]
def pickV (c a b : V) : Option V := match c with
  | .bool t => some (bif t then a else b)
  | _ => none
theorem o_pick : opV e S (.pick x y z) = pickV (ev e x) (ev e y) (ev e z) := by simp only [opV, pickV]; rfl
theorem pick_true {a b : V} : pickV (.bool true) a b = some a := by simp only [pickV, cond_true]
theorem pick_false {a b : V} : pickV (.bool false) a b = some b := by simp only [pickV, cond_false]
theorem pick_bb {t p q : Bool} : pickV (.bool t) (.bool p) (.bool q) = some (.bool (bif t then p else q)) := by cases t <;> simp [pickV]
theorem o_bin {op : BinOp} : opV e S (.bin op x y) = binV op (ev e x) (ev e y) := by simp only [opV]
section
variable {k : IntKind} {a b : Int} {l m : List UInt8}
theorem bi_add : binV .add (.int k a) (.int k b) = some (.int k (k.wrap (a + b))) := by simp only [binV, binI, if_true]
theorem bi_sub : binV .sub (.int k a) (.int k b) = some (.int k (k.wrap (a - b))) := by simp only [binV, binI, if_true]
theorem bi_mul : binV .mul (.int k a) (.int k b) = some (.int k (k.wrap (a * b))) := by simp only [binV, binI, if_true]
theorem bi_quo (h : b ≠ 0) : binV .quo (.int k a) (.int k b) = some (.int k (k.wrap (a.tdiv b))) := by simp only [binV, binI, if_true, h, if_false]
theorem bi_rem (h : b ≠ 0) : binV .rem (.int k a) (.int k b) = some (.int k (a.tmod b)) := by simp only [binV, binI, if_true, h, if_false]
theorem bi_and : binV .and (.int k a) (.int k b) = some (.int k (k.wrap ((BitVec.ofInt k.bits a &&& BitVec.ofInt k.bits b).toNat))) := by simp only [binV, binI, if_true]
theorem bi_or : binV .or (.int k a) (.int k b) = some (.int k (k.wrap ((BitVec.ofInt k.bits a ||| BitVec.ofInt k.bits b).toNat))) := by simp only [binV, binI, if_true]
theorem bi_xor : binV .xor (.int k a) (.int k b) = some (.int k (k.wrap ((BitVec.ofInt k.bits a ^^^ BitVec.ofInt k.bits b).toNat))) := by simp only [binV, binI, if_true]
theorem bi_andNot : binV .andNot (.int k a) (.int k b) = some (.int k (k.wrap ((BitVec.ofInt k.bits a &&& ~~~(BitVec.ofInt k.bits b)).toNat))) := by simp only [binV, binI, if_true]
theorem bi_shr {k' : IntKind} : binV .shr (.int k a) (.int k' b) = shiftV false k a b := by simp only [binV]
theorem bi_shl {k' : IntKind} : binV .shl (.int k a) (.int k' b) = shiftV true k a b := by simp only [binV]
theorem sh_r1 : shiftV false .u64 a 1 = some (.int .u64 (a / 2)) := by
  simp only [shiftV, IntKind.bits]
  rw [Int.fdiv_eq_ediv_of_nonneg _ (by decide)]
  rfl
theorem bi_eql : binV .eql (.int k a) (.int k b) = some (.bool (decide (a = b))) := by simp only [binV, binI, if_true]
theorem bi_neq : binV .neq (.int k a) (.int k b) = some (.bool (!decide (a = b))) := by simp only [binV, binI, if_true]
theorem bi_lss : binV .lss (.int k a) (.int k b) = some (.bool (decide (a < b))) := by simp only [binV, binI, if_true]
theorem bi_leq : binV .leq (.int k a) (.int k b) = some (.bool (decide (a ≤ b))) := by simp only [binV, binI, if_true]
theorem bi_gtr : binV .gtr (.int k a) (.int k b) = some (.bool (decide (b < a))) := by simp only [binV, binI, if_true]
theorem bi_geq : binV .geq (.int k a) (.int k b) = some (.bool (decide (b ≤ a))) := by simp only [binV, binI, if_true]
theorem bs_add (h : l.length + m.length ≤ maxLen) : binV .add (.str l) (.str m) = some (.str (l ++ m)) := by simp only [binV, h, if_true]
theorem bs_eql : binV .eql (.str l) (.str m) = some (.bool (decide (l = m))) := by simp only [binV]
theorem bs_neq : binV .neq (.str l) (.str m) = some (.bool (!decide (l = m))) := by simp only [binV]
theorem bs_lss : binV .lss (.str l) (.str m) = some (.bool (Op.bytesLess l m)) := by simp only [binV]
theorem bs_gtr : binV .gtr (.str l) (.str m) = some (.bool (!(Op.bytesLess l m || decide (l = m)))) := by simp only [binV]
theorem bs_leq : binV .leq (.str l) (.str m) = some (.bool (Op.bytesLess l m || decide (l = m))) := by simp only [binV]
theorem bs_geq : binV .geq (.str l) (.str m) = some (.bool (!Op.bytesLess l m)) := by simp only [binV]
end
def eqbV (neg : Bool) (a b : V) : Option V := match a, b with
  | .bool a, .bool b => some (.bool (if neg then !(a == b) else a == b))
  | _, _ => none
theorem o_eqb {neg : Bool} : opV e S (.eqb neg x y) = eqbV neg (ev e x) (ev e y) := by simp only [opV, eqbV]; rfl
theorem eqb_t {a b : Bool} : eqbV true (.bool a) (.bool b) = some (.bool (!(a == b))) := by simp only [eqbV, if_true]
theorem eqb_f {a b : Bool} : eqbV false (.bool a) (.bool b) = some (.bool (a == b)) := by simp [eqbV]
def un1V (k : Nat) (v : V) : Option V := match k, v with
  | 0, .bool a => some (.bool (!a))
  | 1, .int k n => some (.int k (k.wrap (0 - n)))
  | 2, .str l => some (.int .i64 l.length)
  | _, _ => none
theorem o_not : opV e S (.not x) = un1V 0 (ev e x) := by simp only [opV, un1V]; cases ev e x <;> rfl
theorem o_neg : opV e S (.neg x) = un1V 1 (ev e x) := by simp only [opV, un1V]; cases ev e x <;> rfl
theorem o_lenS : opV e S (.lenS x) = un1V 2 (ev e x) := by simp only [opV, un1V]; cases ev e x <;> rfl
theorem un_not {a : Bool} : un1V 0 (.bool a) = some (.bool (!a)) := by simp only [un1V]
theorem un_neg {k : IntKind} {n : Int} : un1V 1 (.int k n) = some (.int k (k.wrap (0 - n))) := by simp only [un1V]
theorem un_lenS {l : List UInt8} : un1V 2 (.str l) = some (.int .i64 l.length) := by simp only [un1V]
def lenAV (S : Store) (v : V) : Option V := opV (fun _ => v) S (.lenA (.t 0))
theorem o_lenA : opV e S (.lenA x) = lenAV S (ev e x) := by simp only [lenAV, opV, ev]
theorem len_nil : lenAV S .nilSl = some (.int .i64 0) := by simp only [lenAV, opV, ev]
theorem len_sl {sz : Nat} {rows : List (List V)} : lenAV S (.sl sz rows) = some (.int .i64 rows.length) := by simp only [lenAV, opV, ev]
def lenO (o : Option (TypeId × Nat × List (List V))) (len : Nat) : Option V := match o with
  | some _ => some (.int .i64 len)
  | none => none
theorem len_msl {id ver off len : Nat} : lenAV S (.msl id ver off len) = some (.int .i64 len) := by
  simp only [lenAV, opV, ev]
theorem lenO_some {len : Nat} {x : TypeId × Nat × List (List V)} : lenO (some x) len = some (.int .i64 len) := by simp only [lenO]
def idxSV (v i : V) : Option V := opV (fun n => if n = 0 then v else i) [] (.idxS (.t 0) (.t 1))
theorem o_idxS : opV e S (.idxS x y) = idxSV (ev e x) (ev e y) := by simp [idxSV, opV, ev]
theorem idxS_nat {l : List UInt8} {k : IntKind} {n : Nat} : idxSV (.str l) (.int k n) = (l[n]?).map fun b => .int .u8 b.toNat := by simp [idxSV, opV, ev]
theorem idxS_int {l : List UInt8} {k : IntKind} {n : Int} (h : 0 ≤ n) : idxSV (.str l) (.int k n) = (l[n.toNat]?).map fun b => .int .u8 b.toNat := by simp [idxSV, opV, ev, h]
def idxAV (S : Store) (sz : Nat) (v i : V) : Option V := opV (fun n => if n = 0 then v else i) S (.idxA sz (.t 0) (.t 1))
theorem o_idxA {sz : Nat} : opV e S (.idxA sz x y) = idxAV S sz (ev e x) (ev e y) := by simp [idxAV, opV, ev]
theorem idxA_nat {sz : Nat} {rows : List (List V)} {k : IntKind} {n : Nat} : idxAV S sz (.sl sz rows) (.int k n) = (rows[n]?).map .cptr := by simp [idxAV, opV, ev]
theorem idxA_int {sz : Nat} {rows : List (List V)} {k : IntKind} {n : Int} (h : 0 ≤ n) : idxAV S sz (.sl sz rows) (.int k n) = (rows[n.toNat]?).map .cptr := by simp [idxAV, opV, ev, h]
def idxO (o : Option (TypeId × Nat × List (List V))) (sz id ver off len : Nat) (n : Int) : Option V := match o with
  | some (_, sz', _) => if 0 ≤ n ∧ n < len ∧ sz' = sz then some (.ptr id ver (off + n.toNat) 0) else none
  | none => none
theorem idxA_msl {sz id ver off len : Nat} {k : IntKind} {n : Int} : idxAV S sz (.msl id ver off len) (.int k n) = idxO (S.obj? id ver) sz id ver off len n := by
  cases h : S.obj? id ver with
  | none => simp [idxAV, opV, ev, idxO, h]
  | some x => simp [idxAV, opV, ev, idxO, h]
theorem idxO_some {sz id ver off len : Nat} {n : Int} {t : TypeId} {rows : List (List V)} (h0 : 0 ≤ n) (h1 : n < len) : idxO (some (t, sz, rows)) sz id ver off len n = some (.ptr id ver (off + n.toNat) 0) := by
  simp only [idxO, h0, h1, and_self, if_true]
def idxRV (S : Store) (len sz : Nat) (v i : V) : Option V := match v, i with
    | .cptr cells, .int _ n => if 0 ≤ n ∧ n < len then some (.cptr (cells.drop (n.toNat * sz))) else none
    | .ptr id ver row o, .int _ n => if 0 ≤ n ∧ n < len ∧ (S.obj? id ver).isSome then some (.ptr id ver row (o + n.toNat * sz)) else none
    | _, _ => none
theorem o_idxR {len sz : Nat} : opV e S (.idxR len sz x y) = idxRV S len sz (ev e x) (ev e y) := by simp only [idxRV, opV]; rfl
theorem idxR_c {len sz : Nat} {k : IntKind} {n : Int} {cells : List V} (h0 : 0 ≤ n) (h1 : n < len) : idxRV S len sz (.cptr cells) (.int k n) = some (.cptr (cells.drop (n.toNat * sz))) := by simp only [idxRV, h0, h1, and_self, if_true]
def idxRO (o : Option (TypeId × Nat × List (List V))) (v : V) : Option V := match o with
  | some _ => some v
  | none => none
theorem idxR_p {len sz id ver row o : Nat} {k : IntKind} {n : Int} (h0 : 0 ≤ n) (h1 : n < len) : idxRV S len sz (.ptr id ver row o) (.int k n) = idxRO (S.obj? id ver) (.ptr id ver row (o + n.toNat * sz)) := by
  simp only [idxRV, h0, h1, true_and, idxRO]
  cases S.obj? id ver <;> simp
theorem idxRO_some {v : V} {x : TypeId × Nat × List (List V)} : idxRO (some x) v = some v := by simp only [idxRO]
def idxVV (len : Nat) (v i : V) : Option V := match v, i with
    | .agg cells, .int _ n => if 0 ≤ n ∧ n < len then cells[n.toNat]? else none
    | _, _ => none
theorem o_idxV {len : Nat} : opV e S (.idxV len x y) = idxVV len (ev e x) (ev e y) := by simp only [idxVV, opV]; rfl
theorem idxV_agg {len : Nat} {k : IntKind} {n : Int} {cells : List V} (h0 : 0 ≤ n) (h1 : n < len) : idxVV len (.agg cells) (.int k n) = cells[n.toNat]? := by simp only [idxVV, h0, h1, and_self, if_true]
def faddrV (S : Store) (off : Nat) (v : V) : Option V := opV (fun _ => v) S (.faddr off (.t 0))
theorem o_faddr {off : Nat} : opV e S (.faddr off x) = faddrV S off (ev e x) := by simp only [faddrV, opV, ev]
theorem faddr_c {off : Nat} {cells : List V} : faddrV S off (.cptr cells) = some (.cptr (cells.drop off)) := by simp only [faddrV, opV, ev]
def faddrO (o : Option (TypeId × Nat × List (List V))) (v : V) : Option V := match o with
  | some _ => some v
  | none => none
theorem faddr_p {off id ver row o : Nat} : faddrV S off (.ptr id ver row o) = faddrO (S.obj? id ver) (.ptr id ver row (o + off)) := by
  simp only [faddrV, opV, ev, faddrO]
  cases S.obj? id ver <;> simp
theorem faddrO_some {v : V} {x : TypeId × Nat × List (List V)} : faddrO (some x) v = some v := by simp only [faddrO]
def ld1V (S : Store) (v : V) : Option V := opV (fun _ => v) S (.ld1 (.t 0))
theorem o_ld1 : opV e S (.ld1 x) = ld1V S (ev e x) := by simp only [ld1V, opV, ev]
theorem ld1_c {v : V} {cells : List V} : ld1V S (.cptr (v :: cells)) = some v := by simp only [ld1V, opV, ev, List.head?_cons]
def ld1O (q : Option (TypeId × Nat × List (List V))) (row o : Nat) : Option V := match q with
  | some (_, _, rows) => (rows[row]?).bind fun r => r[o]?
  | none => none
theorem ld1_p {id ver row o : Nat} : ld1V S (.ptr id ver row o) = ld1O (S.obj? id ver) row o := by
  simp only [ld1V, opV, ev, ld1O]
  cases S.obj? id ver <;> simp
theorem ld1O_some {row o sz : Nat} {t : TypeId} {rows : List (List V)} : ld1O (some (t, sz, rows)) row o = (rows[row]?).bind fun r => r[o]? := by simp only [ld1O]
def ldnV (S : Store) (n : Nat) (v : V) : Option V := opV (fun _ => v) S (.ldn n (.t 0))
theorem o_ldn {n : Nat} : opV e S (.ldn n x) = ldnV S n (ev e x) := by simp only [ldnV, opV, ev]
theorem ldn_c {n : Nat} {cells : List V} (h : n ≤ cells.length) : ldnV S n (.cptr cells) = some (.agg (cells.take n)) := by simp only [ldnV, opV, ev, h, if_true]
def ldnR (q : Option (List V)) (n o : Nat) : Option V := match q with
  | some r => if o + n ≤ r.length then some (.agg ((r.drop o).take n)) else none
  | none => none
def ldnO (q : Option (TypeId × Nat × List (List V))) (n row o : Nat) : Option V := match q with
  | some (_, _, rows) => ldnR rows[row]? n o
  | none => none
theorem ldn_p {n id ver row o : Nat} : ldnV S n (.ptr id ver row o) = ldnO (S.obj? id ver) n row o := by
  simp only [ldnV, opV, ev, ldnO, ldnR]
  cases h : S.obj? id ver with
  | none => simp
  | some x =>
    obtain ⟨t, sz, rows⟩ := x
    simp only [Option.bind_some]
    cases rows[row]? <;> simp
theorem ldnO_some {n row o sz : Nat} {t : TypeId} {rows : List (List V)} : ldnO (some (t, sz, rows)) n row o = ldnR rows[row]? n o := by simp only [ldnO]
theorem ldnR_some {n o : Nat} {r : List V} (h : o + n ≤ r.length) : ldnR (some r) n o = some (.agg ((r.drop o).take n)) := by simp only [ldnR, h, if_true]
def fldV (off : Nat) (v : V) : Option V := match v with
  | .agg cells => cells[off]?
  | _ => none
theorem o_fld1 {off : Nat} : opV e S (.fld1 off x) = fldV off (ev e x) := by simp only [opV, fldV]; rfl
theorem fld_agg {off : Nat} {cells : List V} : fldV off (.agg cells) = cells[off]? := by simp only [fldV]
def fldnV (off n : Nat) (v : V) : Option V := opV (fun _ => v) [] (.fldn off n (.t 0))
theorem o_fldn {off n : Nat} : opV e S (.fldn off n x) = fldnV off n (ev e x) := by simp only [opV, fldnV, ev]
theorem fldn_agg {off n : Nat} {cells : List V} (h : off + n ≤ cells.length) : fldnV off n (.agg cells) = some (.agg ((cells.drop off).take n)) := by simp only [fldnV, opV, ev, h, if_true]
def convV (k : IntKind) (v : V) : Option V := match v with
  | .int _ n => some (.int k (k.wrap n))
  | _ => none
theorem o_conv {k : IntKind} : opV e S (.conv k x) = convV k (ev e x) := by simp only [opV, convV]; rfl
theorem conv_int {k j : IntKind} {n : Int} : convV k (.int j n) = some (.int k (k.wrap n)) := by simp only [convV]
def extV (i : Nat) (v : V) : Option V := match v with
  | .tup vs => vs[i]?
  | _ => none
theorem o_ext {i : Nat} : opV e S (.ext i x) = extV i (ev e x) := by simp only [opV, extV]; rfl
theorem ext_tup {i : Nat} {vs : List V} : extV i (.tup vs) = vs[i]? := by simp only [extV]
theorem o_build {z : List V} {ps : List (Nat × Nat × Opd)} : opV e S (.build z ps) = (fillV e z ps).map .agg := by simp only [opV]
def fillK (e : Nat → V) (cells : List V) (off size : Nat) (o : Option (List V)) (r : List (Nat × Nat × Opd)) : Option (List V) := match o with
  | some vs => if vs.length = size ∧ off + size ≤ cells.length then fillV e (splice cells off vs) r else none
  | none => none
theorem fill_nil {cells : List V} : fillV e cells [] = some cells := by simp only [fillV]
theorem fill_cons {cells : List V} {off size : Nat} {r : List (Nat × Nat × Opd)} : fillV e cells ((off, size, x) :: r) = fillK e cells off size (ev e x).cells? r := by simp only [fillV, fillK]; rfl
theorem fillK_some {cells vs : List V} {off size : Nat} {r : List (Nat × Nat × Opd)} : fillK e cells off size (some vs) r = if vs.length = size ∧ off + size ≤ cells.length then fillV e (splice cells off vs) r else none := by simp only [fillK]
theorem splice_eq {cells vs : List V} {off : Nat} : splice cells off vs = cells.take off ++ vs ++ cells.drop (off + vs.length) := by simp only [splice]
def boxV (o : Option (List V)) : Option V := match o with
  | some vs => if V.allImm vs then some (.cptr vs) else none
  | none => none
theorem o_boxI : opV e S (.boxI x) = boxV (ev e x).cells? := by simp only [opV, boxV]; rfl
theorem box_some {vs : List V} : boxV (some vs) = if V.allImm vs = true then some (.cptr vs) else none := by simp only [boxV]
def sl3O (o : Option (TypeId × Nat × List (List V))) (sz id ver off : Nat) (b c : Int) (len : Nat) : Option V := match o with
  | some (_, sz', _) => if sz' = sz ∧ 0 ≤ b ∧ b ≤ c ∧ c ≤ len then some (.msl id ver off b.toNat) else none
  | none => none
theorem xo_sl3m {sz id ver off len : Nat} {k k' : IntKind} {b c : Int} : xopV (.sl3 sz) [.msl id ver off len, .int k b, .int k' c] S = sl3O (S.obj? id ver) sz id ver off b c len := by
  simp only [xopV, sl3V, sl3O]
  cases S.obj? id ver <;> simp
theorem sl3O_some {t : TypeId} {sz id ver off len : Nat} {rows : List (List V)} {b c : Int} (h : 0 ≤ b ∧ b ≤ c ∧ c ≤ len) : sl3O (some (t, sz, rows)) sz id ver off b c len = some (.msl id ver off b.toNat) := by simp [sl3O, h]
theorem xo_sl3s {sz : Nat} {rows : List (List V)} {k k' : IntKind} {b c : Int} (h : 0 ≤ b ∧ b ≤ c ∧ c ≤ rows.length) : xopV (.sl3 sz) [.sl sz rows, .int k b, .int k' c] S = some (.sl sz (rows.take b.toNat)) := by simp [xopV, sl3V, h]
theorem o_xo {op : XOp} {l : List Opd} : opV e S (.xo op l) = xopV op (evs e l) S := by simp only [opV]
theorem xo_eqP {neg : Bool} {x y : V} : xopV (.eqP neg) [x, y] S = eqPV neg x y S := by simp only [xopV]
theorem xo_toU {x : V} : xopV .toU [x] S = toUV x S := by simp only [xopV]
theorem xo_frU {t : TypeId} {sz : Nat} {x : V} : xopV (.frU t sz) [x] S = frUV t sz x S := by simp only [xopV]
theorem xo_s2b {x : V} : xopV .s2b [x] S = s2bV x := by simp only [xopV]
theorem s2b_str {l : List UInt8} : s2bV (.str l) = some (.sl 1 (l.map fun b => [V.int .u8 (b.toNat : Nat)])) := rfl
theorem xo_sdat {x : V} : xopV .sdat [x] S = sdatV x S := by simp only [xopV]
theorem xo_lk {kd : KD} {zero : V} {ok : Bool} {m k : V} : xopV (.lk kd zero ok) [m, k] S = lkV kd zero ok m k S := by simp only [xopV]
theorem lk_nil {kd : KD} {zero : V} {ok : Bool} {k : V} : lkV kd zero ok .nilMap k S = if isKV kd k = true then some (lkRes zero ok none) else none := by simp only [lkV]
theorem lk_mapv {kd : KD} {zero : V} {ok : Bool} {k : V} {id ver : Nat} : lkV kd zero ok (.mapv id ver) k S = lkO kd zero ok k (S.mp? id ver) := by simp only [lkV]
theorem lkO_some {kd kd' : KD} {zero : V} {ok : Bool} {k : V} {rows : List (V × V)} : lkO kd zero ok k (some (kd', rows, .free)) = if kd' = kd ∧ isKV kd k = true then some (lkRes zero ok (findV k rows)) else none := by simp only [lkO, MX.isIt, and_true]
theorem lkO_held {kd kd' : KD} {zero : V} {ok : Bool} {k : V} {rows : List (V × V)} {i : Nat} : lkO kd zero ok k (some (kd', rows, .held i)) = if kd' = kd ∧ isKV kd k = true then some (lkRes zero ok (findV k rows)) else none := by simp only [lkO, MX.isIt, and_true]
theorem xo_ent {m : V} : xopV .ent [m] S = entV m S := by simp only [xopV]
theorem ent_it {it iver : Nat} : entV (.mapv it iver) S = entO it S (S.mp? it iver) := by simp only [entV]
theorem entO_it {it id ver : Nat} {kd : KD} {rows : List (V × V)} {p : V × V} : entO it S (some (kd, rows, .iter (some (id, ver)) (some p))) = entO2 it p (S.mp? id ver) := by simp only [entO]
theorem ent2_some {it : Nat} {kd : KD} {rows : List (V × V)} {p : V × V} : entO2 it p (some (kd, rows, .held it)) = some (.tup [p.1, p.2]) := by simp only [entO2, if_true]
theorem lkR_ok {zero : V} {o : Option V} : lkRes zero true o = .tup [o.getD zero, .bool o.isSome] := by simp only [lkRes, if_true]
theorem lkR_no {zero : V} {o : Option V} : lkRes zero false o = o.getD zero := by simp only [lkRes, Bool.false_eq_true, if_false]
theorem xo_lenM {m : V} : xopV .lenM [m] S = lenMV m S := by simp only [xopV]
theorem lenM_nil : lenMV .nilMap S = some (.int .i64 0) := by simp only [lenMV]
theorem lenM_mapv {id ver : Nat} : lenMV (.mapv id ver) S = lenMO (S.mp? id ver) := by simp only [lenMV]
theorem lenMO_some {kd : KD} {rows : List (V × V)} : lenMO (some (kd, rows, .free)) = some (.int .i64 rows.length) := by simp only [lenMO, MX.isIt, if_true]
theorem lenMO_held {kd : KD} {rows : List (V × V)} {i : Nat} : lenMO (some (kd, rows, .held i)) = some (.int .i64 rows.length) := by simp only [lenMO, MX.isIt, if_true]
theorem xo_eqA {l : List KD1} {neg : Bool} {x y : V} : xopV (.eqA l neg) [x, y] S = eqAV l neg x y := by simp only [xopV]
theorem eqA_agg {l : List KD1} {neg : Bool} {a b : List V} : eqAV l neg (.agg a) (.agg b) = if isKL l a = true ∧ isKL l b = true then some (.bool (if neg then !eqKL a b else eqKL a b)) else none := by simp only [eqAV]
def eqO (o : Option (TypeId × Nat × List (List V))) (neg : Bool) : Option V := match o with
  | some _ => some (.bool (!neg))
  | none => none
theorem eqO_some {t : TypeId} {sz : Nat} {rows : List (List V)} {neg : Bool} : eqO (some (t, sz, rows)) neg = some (.bool (!neg)) := by simp only [eqO]
def eqO2 (o o' : Option (TypeId × Nat × List (List V))) (neg : Bool) : Option V := match o, o' with
  | some _, some _ => some (.bool neg)
  | _, _ => none
theorem eqO2_some {t t' : TypeId} {sz sz' : Nat} {rows rows' : List (List V)} {neg : Bool} : eqO2 (some (t, sz, rows)) (some (t', sz', rows')) neg = some (.bool neg) := by simp only [eqO2]
theorem eqP_diff {neg : Bool} {id ver row off id' ver' row' off' : Nat} (h : id ≠ id') : eqPV neg (.ptr id ver row off) (.ptr id' ver' row' off') S = eqO2 (S.obj? id ver) (S.obj? id' ver') neg := by
  simp only [eqPV, eqO2]
  rw [if_neg (fun e => h e.1)]
  cases S.obj? id ver <;> cases S.obj? id' ver' <;> simp [h]
theorem eqP_same {neg : Bool} {id ver row off : Nat} : eqPV neg (.ptr id ver row off) (.ptr id ver row off) S = eqO (S.obj? id ver) neg := by
  simp only [eqPV, eqO]
  cases S.obj? id ver <;> simp
def toUO (o : Option (TypeId × Nat × List (List V))) (id ver row off : Nat) : Option V := match o with
  | some (_, sz, rows) => if row < rows.length ∧ off < sz then some (.ptr id ver row off) else none
  | none => none
theorem toU_p {id ver row off : Nat} : toUV (.ptr id ver row off) S = toUO (S.obj? id ver) id ver row off := by simp only [toUV, toUO]; rfl
theorem toUO_some {t : TypeId} {sz : Nat} {rows : List (List V)} {id ver row off : Nat} (h1 : row < rows.length) (h2 : off < sz) : toUO (some (t, sz, rows)) id ver row off = some (.ptr id ver row off) := by simp only [toUO, h1, h2, and_self, if_true]
def frUO (t : TypeId) (sz : Nat) (o : Option (TypeId × Nat × List (List V))) (id ver row off : Nat) : Option V := match o with
  | some (t', sz', rows) => if off = 0 ∧ t' = t ∧ sz' = sz ∧ row < rows.length then some (.ptr id ver row 0) else none
  | none => none
theorem frU_p {t : TypeId} {sz id ver row off : Nat} : frUV t sz (.ptr id ver row off) S = frUO t sz (S.obj? id ver) id ver row off := by simp only [frUV, frUO]; rfl
theorem frUO_some {t : TypeId} {sz : Nat} {rows : List (List V)} {id ver row : Nat} (h1 : row < rows.length) : frUO t sz (some (t, sz, rows)) id ver row 0 = some (.ptr id ver row 0) := by simp only [frUO, h1, and_self, if_true]
def sdatO (o : Option (TypeId × Nat × List (List V))) (id ver off : Nat) : Option V := match o with
  | some _ => some (.ptr id ver off 0)
  | none => none
theorem sdat_m {id ver off len : Nat} (h : 0 < len) : sdatV (.msl id ver off len) S = sdatO (S.obj? id ver) id ver off := by
  simp only [sdatV, sdatO, h, true_and]
  cases S.obj? id ver <;> simp
theorem sdatO_some {t : TypeId} {sz : Nat} {rows : List (List V)} {id ver off : Nat} : sdatO (some (t, sz, rows)) id ver off = some (.ptr id ver off 0) := by simp only [sdatO]
theorem sdat_nil : sdatV .nilSl S = some .nilPtr := by simp only [sdatV]
theorem o_mkfn {f : FuncId} {a b : List Opd} : opV e S (.mkfn f a b) = some (.func f (evs e a) (evs e b)) := by simp only [opV]
def mmV (mn : Bool) (a b : V) : Option V := opV (fun n => if n = 0 then a else b) [] (.minmax mn (.t 0) (.t 1))
theorem o_minmax {mn : Bool} : opV e S (.minmax mn x y) = mmV mn (ev e x) (ev e y) := by simp [mmV, opV, ev]
theorem mm_min {k : IntKind} {a b : Int} : mmV true (.int k a) (.int k b) = some (.int k (min a b)) := by
  simp only [mmV, opV, ev, if_true]
  congr 2
  by_cases h : b < a
  · simp [h]; omega
  · simp [h]; omega
theorem mm_max {k : IntKind} {a b : Int} : mmV false (.int k a) (.int k b) = some (.int k (max a b)) := by
  simp [mmV, opV, ev]
  by_cases h : b > a
  · simp [h]; omega
  · simp [h]; omega
def slSV (e : Nat → V) (v : V) (lo hi : Option Opd) : Option V := match v with
  | .str l => match bound e 0 lo, bound e l.length hi with
    | some a, some b => if 0 ≤ a ∧ a ≤ b ∧ b ≤ l.length then some (.str ((l.drop a.toNat).take (b.toNat - a.toNat))) else none
    | _, _ => none
  | _ => none
theorem o_slS {lo hi : Option Opd} : opV e S (.slS x lo hi) = slSV e (ev e x) lo hi := by simp only [opV, slSV]; rfl
def intOfV : V → Option Int
  | .int _ n => some n
  | _ => none
theorem bd_none {d : Nat} : bound e d none = some (d : Int) := by simp only [bound]
theorem bd_some {d : Nat} : bound e d (some x) = intOfV (ev e x) := by simp only [bound, intOfV]; cases ev e x <;> rfl
theorem io_int {k : IntKind} {n : Int} : intOfV (.int k n) = some n := by simp only [intOfV]
def cutS (l : List UInt8) (a b : Option Int) : Option V := match a, b with
  | some a, some b => if 0 ≤ a ∧ a ≤ b ∧ b ≤ l.length then some (.str ((l.drop a.toNat).take (b.toNat - a.toNat))) else none
  | _, _ => none
theorem slS_str {l : List UInt8} {lo hi : Option Opd} : slSV e (.str l) lo hi = cutS l (bound e 0 lo) (bound e l.length hi) := by simp only [slSV, cutS]
theorem cutS_some {l : List UInt8} {a b : Int} : cutS l (some a) (some b) = if 0 ≤ a ∧ a ≤ b ∧ b ≤ l.length then some (.str ((l.drop a.toNat).take (b.toNat - a.toNat))) else none := by simp only [cutS]
def slAV (e : Nat → V) (S : Store) (sz : Nat) (v : V) (lo hi : Option Opd) : Option V := match v with
  | .nilSl => match bound e 0 lo, bound e 0 hi with
    | some a, some b => if a = 0 ∧ b = 0 then some .nilSl else none
    | _, _ => none
  | .sl sz' rows => match bound e 0 lo, bound e rows.length hi with
    | some a, some b => if sz' = sz ∧ 0 ≤ a ∧ a ≤ b ∧ b ≤ rows.length then some (.sl sz ((rows.drop a.toNat).take (b.toNat - a.toNat))) else none
    | _, _ => none
  | .msl id ver off len => match bound e 0 lo, bound e len hi with
    | some a, some b => if ((S.obj? id ver).map (·.2.1)) = some sz ∧ 0 ≤ a ∧ a ≤ b ∧ b ≤ len then some (.msl id ver (off + a.toNat) (b.toNat - a.toNat)) else none
    | _, _ => none
  | _ => none
theorem o_slA {sz : Nat} {lo hi : Option Opd} : opV e S (.slA sz x lo hi) = slAV e S sz (ev e x) lo hi := by simp only [opV, slAV]; rfl
def cutA (sz : Nat) (rows : List (List V)) (a b : Option Int) : Option V := match a, b with
  | some a, some b => if 0 ≤ a ∧ a ≤ b ∧ b ≤ rows.length then some (.sl sz ((rows.drop a.toNat).take (b.toNat - a.toNat))) else none
  | _, _ => none
def cutO (o : Option (TypeId × Nat × List (List V))) (sz id ver off len : Nat) (a b : Option Int) : Option V := match o, a, b with
  | some (_, sz', _), some a, some b => if sz' = sz ∧ 0 ≤ a ∧ a ≤ b ∧ b ≤ len then some (.msl id ver (off + a.toNat) (b.toNat - a.toNat)) else none
  | _, _, _ => none
theorem slA_msl {sz id ver off len : Nat} {lo hi : Option Opd} : slAV e S sz (.msl id ver off len) lo hi = cutO (S.obj? id ver) sz id ver off len (bound e 0 lo) (bound e len hi) := by
  simp only [slAV, cutO]
  cases S.obj? id ver <;> cases bound e 0 lo <;> cases bound e len hi <;> simp
theorem cutO_some {sz id ver off len : Nat} {t : TypeId} {rows : List (List V)} {a b : Int} : cutO (some (t, sz, rows)) sz id ver off len (some a) (some b) = if 0 ≤ a ∧ a ≤ b ∧ b ≤ len then some (.msl id ver (off + a.toNat) (b.toNat - a.toNat)) else none := by simp only [cutO, true_and]
theorem slA_sl {sz : Nat} {rows : List (List V)} {lo hi : Option Opd} : slAV e S sz (.sl sz rows) lo hi = cutA sz rows (bound e 0 lo) (bound e rows.length hi) := by simp only [slAV, cutA, true_and]
theorem cutA_some {sz : Nat} {rows : List (List V)} {a b : Int} : cutA sz rows (some a) (some b) = if 0 ≤ a ∧ a ≤ b ∧ b ≤ rows.length then some (.sl sz ((rows.drop a.toNat).take (b.toNat - a.toNat))) else none := by simp only [cutA]
def bslV (sz : Nat) (o : Option (List (List V))) : Option V := match o with
  | some rows => if rows.all V.allImm then some (.sl sz rows) else none
  | none => none
theorem o_bsl {sz n : Nat} {z : List V} {ps : List (Nat × Opd)} : opV e S (.bsl sz z n ps) = bslV sz (fillR e sz (zrows z n) ps) := by simp only [opV, bslV]; rfl
theorem bsl_some {sz : Nat} {rows : List (List V)} : bslV sz (some rows) = if rows.all V.allImm = true then some (.sl sz rows) else none := by simp only [bslV]
def fillRK (e : Nat → V) (sz : Nat) (rows : List (List V)) (i : Nat) (o : Option (List V)) (r : List (Nat × Opd)) : Option (List (List V)) := match o with
  | some vs => if vs.length = sz ∧ i < rows.length then fillR e sz (rows.set i vs) r else none
  | none => none
theorem fillR_nil {sz : Nat} {rows : List (List V)} : fillR e sz rows [] = some rows := by simp only [fillR]
theorem fillR_cons {sz i : Nat} {rows : List (List V)} {r : List (Nat × Opd)} : fillR e sz rows ((i, x) :: r) = fillRK e sz rows i (ev e x).cells? r := by simp only [fillR, fillRK]; rfl
theorem fillRK_some {sz i : Nat} {rows : List (List V)} {vs : List V} {r : List (Nat × Opd)} : fillRK e sz rows i (some vs) r = if vs.length = sz ∧ i < rows.length then fillR e sz (rows.set i vs) r else none := by simp only [fillRK]
theorem zrows_zero {z : List V} : zrows z 0 = [] := by simp only [zrows, List.replicate_zero]
theorem zrows_succ {z : List V} {n : Nat} : zrows z (n + 1) = z :: zrows z n := by simp only [zrows, List.replicate_succ]
def chkV (S : Store) (v : V) : Option V := opV (fun _ => v) S (.nilChk (.t 0))
theorem o_nilChk : opV e S (.nilChk x) = chkV S (ev e x) := by simp only [chkV, opV, ev]
theorem chk_c {l : List V} : chkV S (.cptr l) = some (.cptr l) := by simp only [chkV, opV, ev]
theorem chk_p {id ver row o : Nat} : chkV S (.ptr id ver row o) = faddrO (S.obj? id ver) (.ptr id ver row o) := by
  simp only [chkV, opV, ev, faddrO]
  cases S.obj? id ver <;> simp
theorem chk_f {f : FuncId} {a b : List V} : chkV S (.func f a b) = some (.func f a b) := by simp only [chkV, opV, ev]
theorem chk_i {t : TypeId} {v : V} : chkV S (.iface t v) = some (.iface t v) := by simp only [chkV, opV, ev]
theorem o_mkIf {t : TypeId} : opV e S (.mkIf t x) = some (.iface t (ev e x)) := by simp only [opV]
def tasV (t : TypeId) (z : V) (ok : Bool) (v : V) : Option V := opV (fun _ => v) [] (.tas t z ok (.t 0))
theorem o_tas {t : TypeId} {z : V} {ok : Bool} : opV e S (.tas t z ok x) = tasV t z ok (ev e x) := by simp only [tasV, opV, ev]
theorem tas_iface {t t' : TypeId} {z v : V} : tasV t z true (.iface t' v) = if t' = t then some (.tup [v, .bool true]) else some (.tup [z, .bool false]) := by simp [tasV, opV, ev]
theorem tas_iface' {t t' : TypeId} {z v : V} : tasV t z false (.iface t' v) = if t' = t then some v else none := by simp [tasV, opV, ev]
theorem tas_nil {t : TypeId} {z : V} : tasV t z true .nilIface = some (.tup [z, .bool false]) := by simp [tasV, opV, ev]
def isNilV (S : Store) (k : Nat) (neg : Bool) (v : V) : Option V := opV (fun _ => v) S (.isNil k neg (.t 0))
theorem o_isNil {k : Nat} {neg : Bool} : opV e S (.isNil k neg x) = isNilV S k neg (ev e x) := by simp only [isNilV, opV, ev]
theorem nil_0 {neg : Bool} : isNilV S 0 neg .nilSl = some (.bool (!neg)) := by cases neg <;> simp [isNilV, opV, ev, nilV]
theorem nil_0c {neg : Bool} {sz : Nat} {r : List V} {rows : List (List V)} : isNilV S 0 neg (.sl sz (r :: rows)) = some (.bool neg) := by cases neg <;> simp [isNilV, opV, ev, nilV]
theorem nil_1 {neg : Bool} : isNilV S 1 neg .nilPtr = some (.bool (!neg)) := by cases neg <;> simp [isNilV, opV, ev, nilV]
theorem nil_1c {neg : Bool} {l : List V} : isNilV S 1 neg (.cptr l) = some (.bool neg) := by cases neg <;> simp [isNilV, opV, ev, nilV]
theorem nil_1p {neg : Bool} {id ver row o : Nat} : isNilV S 1 neg (.ptr id ver row o) = faddrO (S.obj? id ver) (.bool neg) := by
  simp only [isNilV, opV, ev, nilV, faddrO]
  cases S.obj? id ver <;> cases neg <;> simp
theorem nil_0m {neg : Bool} {id ver off len : Nat} (h : 0 < len) : isNilV S 0 neg (.msl id ver off len) = faddrO (S.obj? id ver) (.bool neg) := by
  simp only [isNilV, opV, ev, nilV, faddrO, h]
  cases S.obj? id ver <;> cases neg <;> simp
theorem nil_2 {neg : Bool} : isNilV S 2 neg .nilIface = some (.bool (!neg)) := by cases neg <;> simp [isNilV, opV, ev, nilV]
theorem nil_2c {neg : Bool} {t : TypeId} {v : V} : isNilV S 2 neg (.iface t v) = some (.bool neg) := by cases neg <;> simp [isNilV, opV, ev, nilV]
theorem nil_4 {neg : Bool} : isNilV S 4 neg .nilMap = some (.bool (!neg)) := by cases neg <;> simp [isNilV, opV, ev, nilV]
def nilMO (o : Option (KD × List (V × V) × MX)) (b : Bool) : Option V := match o with
  | some (_, _, x) => if x.isIt = false then some (.bool b) else none
  | none => none
theorem nil_4m {neg : Bool} {id ver : Nat} : isNilV S 4 neg (.mapv id ver) = nilMO (S.mp? id ver) neg := by
  simp only [isNilV, opV, ev, nilV]
  cases S.mp? id ver with
  | none => simp [nilMO]
  | some p => obtain ⟨kd, rows, x⟩ := p; cases hx : x.isIt <;> cases neg <;> simp [nilMO, hx]
theorem nilMO_some {kd : KD} {rows : List (V × V)} {b : Bool} : nilMO (some (kd, rows, .free)) b = some (.bool b) := by simp only [nilMO, MX.isIt, if_true]
theorem nilMO_held {kd : KD} {rows : List (V × V)} {i : Nat} {b : Bool} : nilMO (some (kd, rows, .held i)) b = some (.bool b) := by simp only [nilMO, MX.isIt, if_true]
theorem nil_3 {neg : Bool} : isNilV S 3 neg .nilFn = some (.bool (!neg)) := by cases neg <;> simp [isNilV, opV, ev, nilV]
theorem nil_3c {neg : Bool} {f : FuncId} {a b : List V} : isNilV S 3 neg (.func f a b) = some (.bool neg) := by cases neg <;> simp [isNilV, opV, ev, nilV]
def b2sV (S : Store) (v : V) : Option V := opV (fun _ => v) S (.b2s (.t 0))
theorem o_b2s : opV e S (.b2s x) = b2sV S (ev e x) := by simp only [b2sV, opV, ev]
theorem b2s_nil : b2sV S .nilSl = some (.str []) := by simp only [b2sV, opV, ev]
def byteRows (l : List UInt8) : List (List V) := l.map fun b => [.int .u8 b.toNat]
theorem bytesV_rows : ∀ {l : List UInt8}, bytesV (byteRows l) = some l
  | [] => by simp only [byteRows, List.map_nil, bytesV]
  | b :: r => by
    have := bytesV_rows (l := r)
    simp only [byteRows] at this
    simp [byteRows, bytesV, this]
theorem b2s_sl {l : List UInt8} : b2sV S (.sl 1 (byteRows l)) = some (.str l) := by simp [b2sV, opV, ev, bytesV_rows]
def b2sO (o : Option (TypeId × Nat × List (List V))) (off len : Nat) : Option V := match o with
  | some (_, sz, rows) => if sz = 1 then (bytesV ((rows.drop off).take len)).map .str else none
  | none => none
theorem b2s_msl {id ver off len : Nat} : b2sV S (.msl id ver off len) = b2sO (S.obj? id ver) off len := by
  simp only [b2sV, opV, ev, b2sO]
  cases S.obj? id ver <;> simp
theorem b2sO_some {len : Nat} {t : TypeId} {l : List UInt8} (hl : l.length = len) : b2sO (some (t, 1, byteRows l)) 0 len = some (.str l) := by
  subst hl
  have h1 : (byteRows l).take l.length = byteRows l := List.take_of_length_le (by simp [byteRows])
  simp only [b2sO, if_true, List.drop_zero, h1, bytesV_rows, Option.map_some]
theorem cells_int {k : IntKind} {n : Int} : (V.int k n).cells? = some [.int k n] := by simp only [V.cells?]
theorem cells_bool {b : Bool} : (V.bool b).cells? = some [.bool b] := by simp only [V.cells?]
theorem cells_str {l : List UInt8} : (V.str l).cells? = some [.str l] := by simp only [V.cells?]
theorem cells_sl {sz : Nat} {rows : List (List V)} : (V.sl sz rows).cells? = some [.sl sz rows] := by simp only [V.cells?]
theorem cells_nilSl : (V.nilSl).cells? = some [.nilSl] := by simp only [V.cells?]
theorem cells_nilPtr : (V.nilPtr).cells? = some [.nilPtr] := by simp only [V.cells?]
theorem cells_nilIface : (V.nilIface).cells? = some [.nilIface] := by simp only [V.cells?]
theorem cells_iface {t : TypeId} {v : V} : (V.iface t v).cells? = some [.iface t v] := by simp only [V.cells?]
theorem cells_msl {a b c d : Nat} : (V.msl a b c d).cells? = some [.msl a b c d] := by simp only [V.cells?]
theorem cells_ptr {a b c d : Nat} : (V.ptr a b c d).cells? = some [.ptr a b c d] := by simp only [V.cells?]
theorem cells_cptr {l : List V} : (V.cptr l).cells? = some [.cptr l] := by simp only [V.cells?]
theorem cells_func {f : FuncId} {a b : List V} : (V.func f a b).cells? = some [.func f a b] := by simp only [V.cells?]
theorem cells_agg {l : List V} : (V.agg l).cells? = if l.all V.cellOk = true then some l else none := by simp only [V.cells?]
theorem ok_int {k : IntKind} {n : Int} : (V.int k n).cellOk = true := by simp only [V.cellOk]
theorem ok_bool {b : Bool} : (V.bool b).cellOk = true := by simp only [V.cellOk]
theorem ok_str {l : List UInt8} : (V.str l).cellOk = true := by simp only [V.cellOk]
theorem ok_sl {sz : Nat} {rows : List (List V)} : (V.sl sz rows).cellOk = true := by simp only [V.cellOk]
theorem ok_nilSl : (V.nilSl).cellOk = true := by simp only [V.cellOk]
theorem ok_msl {a b c d : Nat} : (V.msl a b c d).cellOk = true := by simp only [V.cellOk]
theorem ok_ptr {a b c d : Nat} : (V.ptr a b c d).cellOk = true := by simp only [V.cellOk]
theorem ok_cptr {l : List V} : (V.cptr l).cellOk = true := by simp only [V.cellOk]
theorem ok_nilPtr : (V.nilPtr).cellOk = true := by simp only [V.cellOk]
theorem ok_nilIface : (V.nilIface).cellOk = true := by simp only [V.cellOk]
theorem ok_iface {t : TypeId} {v : V} : (V.iface t v).cellOk = true := by simp only [V.cellOk]
theorem imm_int {k : IntKind} {n : Int} : (V.int k n).isImm = true := by simp only [V.isImm]
theorem imm_bool {b : Bool} : (V.bool b).isImm = true := by simp only [V.isImm]
theorem imm_str {l : List UInt8} : (V.str l).isImm = true := by simp only [V.isImm]
theorem imm_sl {sz : Nat} {rows : List (List V)} : (V.sl sz rows).isImm = true := by simp only [V.isImm]
theorem imm_nilSl : (V.nilSl).isImm = true := by simp only [V.isImm]
theorem imm_nilPtr : (V.nilPtr).isImm = true := by simp only [V.isImm]
theorem imm_nilIface : (V.nilIface).isImm = true := by simp only [V.isImm]
theorem imm_cptr {l : List V} : (V.cptr l).isImm = true := by simp only [V.isImm]
theorem imm_iface {t : TypeId} {v : V} : (V.iface t v).isImm = v.isImm := by simp only [V.isImm]
theorem imm_agg {l : List V} : (V.agg l).isImm = V.allImm l := by simp only [V.isImm]
theorem imm_tup {l : List V} : (V.tup l).isImm = V.allImm l := by simp only [V.isImm]
theorem imm_func {f : FuncId} {a b : List V} : (V.func f a b).isImm = (V.allImm a && V.allImm b) := by simp only [V.isImm]
theorem allImm_nil : V.allImm [] = true := by simp only [V.allImm]
theorem allImm_cons {v : V} {r : List V} : V.allImm (v :: r) = (v.isImm && V.allImm r) := by simp only [V.allImm]
end
end Go.AL
