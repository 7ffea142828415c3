/- Contracts of the library, at this program (laid by the kit's tool, cut by cutshelf.py). -/
import Derived.Shelf.Small.Strs
import Derived.Shelf.Small.Wraps
import Derived.Shelf.Strconv.Atoi
import Derived.Shelf.Strconv.Itoa0
import Derived.Shelf.Strconv.Itoa1
import Derived.Shelf.LaysM
import Derived.Shelf.Strconv.Itoa2
import Derived.Shelf.Strconv.Itoa3
import Derived.Shelf.Strconv.AtoiErrFast
import Derived.Shelf.Strconv.ParseIntEmpty
import Derived.Shelf.Strconv.AtoiFail
import Derived.Shelf.Strconv.Clone
import Derived.Shelf.Strconv.SyntaxError
import Derived.Shelf.LaysC
import Derived.Shelf.Strconv.ToError
import Derived.Shelf.Strconv.AtoiErr
import Derived.Shelf.Strconv.ErrVar
import Derived.Shelf.Strconv.Lower
import Derived.Shelf.Strconv.ParseUint10
import Derived.Shelf.Strconv.ParseUint10Empty
import Derived.Shelf.Strconv.ParseUint10Any
import Derived.Shelf.Strconv.ParseInt10
import Derived.Shelf.Strconv.AtoiLong
import Derived.Shelf.Strconv.AtoiInnerAll
import Derived.Shelf.Strconv.RangeError
import Derived.Shelf.Strconv.ToErrorRange
import Derived.Shelf.Strconv.AtoiAll
import Derived.Shelf.Strconv.ErrVarAll
import Derived.Shelf.Strconv.ParseUintEmpty
import Derived.Shelf.Strconv.ParseUint10b64
import Derived.Shelf.Strconv.ParseUint10b32
import Derived.Shelf.Strconv.ParseUint10b16
import Derived.Shelf.Strconv.ParseUint10b8
import Derived.Shelf.Strconv.ParseUint10At
import Derived.Shelf.Strings.Search1
import Derived.Shelf.Strings.Prefix
import Derived.Ground.Names2Prog
import Derived.Test.YtlnpfnoemhjheaaGreatDoorProg
import Derived.Test.YtlnpfnoemhjheaaGreatDoorMAlX
import Derived.Test.YtlnpfnoemhjheaaGreatDoorMEdC
namespace Go.Proofs
open Go.Shelf
def Tryz.lays137_ren : Go.Shelf.Ren := ⟨fun | 137 => 54 | 217 => 80 | 266 => 112 | n => n, fun | 9 => 9 | 5 => 5 | 3 => 3 | n => n, fun | n => n⟩
theorem Tryz.lays137 : Go.Proofs.Lays.n137 Tryz.prog Tryz.lays137_ren := {
  mixed := by kernel_rfl
  f137 := Tryz.func54.trans (congrArg some (by kernel_rfl))
  f217 := Tryz.func80.trans (congrArg some (by kernel_rfl))
  f266 := Tryz.func112.trans (congrArg some (by kernel_rfl))
  t3 := Tryz.underlying3
  a3 := Tryz.isAgg3
  z3 := Tryz.sizeOf3
  v3 := Tryz.zeroValue3
  t5 := Tryz.underlying5
  a5 := Tryz.isAgg5
  z5 := Tryz.sizeOf5
  v5 := Tryz.zeroValue5
  t9 := Tryz.underlying9
  a9 := Tryz.isAgg9
  z9 := Tryz.sizeOf9
  v9 := Tryz.zeroValue9 }
open Go.RowKit in
theorem Tryz.strings_IndexByte (s : ByteArray) (c : Int) (w : World) :
    Calls Tryz.prog 54 #[.string s, .int .u8 c] w fun e w' => e = .returned (.int .i64 (Lib.indexByte s.data.toList c.toNat.toUInt8)) ∧ w' = w := Any.strings_IndexByte Tryz.lays137 s c w
end Go.Proofs
/- Bytes and texts: which are special, odd, letters. -/
namespace Go.Proofs.YtlnpfnoemhjheaaGreatDoor.Ed
open Go Go.AL
set_option linter.unusedSectionVars false
variable [Go.AL.Mode] [Go.AL.LooseM]
set_option linter.unusedSimpArgs false
set_option linter.unusedVariables false
def sp : List UInt8 := [43, 58, 39, 63]
def specC (c : UInt8) : Bool := decide (c.toNat = 43) || decide (c.toNat = 58) || decide (c.toNat = 39) || decide (c.toNat = 63)
def oddC (c : UInt8) : Bool := decide (c.toNat < 32) || decide (126 < c.toNat)
def upC (c : UInt8) : Bool := decide (65 ≤ c.toNat) && decide (c.toNat ≤ 90)
theorem spec_pos (c : UInt8) : (0 ≤ Lib.indexByte sp c) ↔ specC c = true := by
  have : ∀ n : Fin 256, (decide (0 ≤ Lib.indexByte sp (UInt8.ofNat n.val))) = specC (UInt8.ofNat n.val) := by decide +kernel
  have h := this ⟨c.toNat, c.toNat_lt⟩
  simp only [UInt8.ofNat_toNat] at h
  rw [← h]
  simp
theorem index_A (c : UInt8) (S : Store) : CallA Tryz.prog 54 [.str [43, 58, 39, 63], .int .u8 c.toNat] S fun r S' => r = .int .i64 (Lib.indexByte sp c) ∧ S' = S := by
  refine CallA.of_same ⟨_, Tryz.func54, by kernel_rfl, by kernel_rfl⟩ fun ρ w us hv => ?_
  obtain ⟨u, x, rfl, h1, h2⟩ := hv.two
  obtain ⟨s, rfl, hs, _⟩ := h1.str_inv
  have := h2.int_inv
  subst this
  refine ⟨_, .int, ?_⟩
  have h := Tryz.strings_IndexByte s c.toNat w
  rw [hs] at h
  have e : ((c.toNat : Int).toNat.toUInt8) = c := by simp
  rw [e] at h
  exact h
theorem any_take_succ {α : Type} {p : α → Bool} {l : List α} {k : Nat} {c : α} (hc : l[k]? = some c) (h : (l.take k).any p = false) (hn : p c = false) : (l.take (k + 1)).any p = false := by
  rw [List.take_add_one, hc]; simp [h, hn]
theorem any_of_get {α : Type} {p : α → Bool} {l : List α} {k : Nat} {c : α} (hc : l[k]? = some c) (h : p c = true) : l.any p = true :=
  List.any_eq_true.2 ⟨c, List.mem_of_getElem? hc, h⟩
theorem odd_A (l : List UInt8) (S : Store) (hl : l.length ≤ 1048576) : CallA Tryz.prog 110 [.str l] S fun r S' => r = .bool (l.any oddC) ∧ S' = S := by
  refine CallA.keep Tryz.func110 c8045 (Nat.le_of_ble_eq_true rfl) fun σ hσ => ?_
  simp only [a8045, ↓evPre, ↓evPreW, evPost, evPostW, evR, evU, seval]
  refine loopA (ι := Nat) (fun k => [(0, .str l), (5, .int .i64 l.length), (6, .int .i64 k)]) (fun _ => S) (fun k => k ≤ l.length ∧ (l.take k).any oddC = false) (fun k => l.length - k) 0 ⟨Nat.zero_le _, by simp⟩ ?_ rfl ?_
  · simp only [↓evPre, ↓evPreW, evPost, evPostW, evR, evU, seval]
  · rintro k ⟨hk, hall⟩
    cases hc : l[k]? with
    | none =>
      have hkl : k = l.length := by have := List.getElem?_eq_none_iff.1 hc; omega
      have hlt : ¬ ((k : Int) < l.length) := by omega
      rw [hkl, List.take_length] at hall
      simp (disch := first | omega | (simp only [lenT]; omega)) only [hlt, wrap_i64, hall, ↓evPre, ↓evPreW, evPost, evPostW, evR, evU, seval]
    | some c =>
      have hlt : ((k : Int) < l.length) := by have := (List.getElem?_eq_some_iff.1 hc).1; omega
      by_cases h1 : (c.toNat : Int) < 32
      · have ho : oddC c = true := by simp [oddC]; omega
        simp (disch := first | omega | (simp only [lenT]; omega)) only [hlt, hc, h1, wrap_i64, any_of_get hc ho, ↓evPre, ↓evPreW, evPost, evPostW, evR, evU, seval]
      · by_cases h2 : 126 < (c.toNat : Int)
        · have ho : oddC c = true := by simp [oddC]; omega
          simp (disch := first | omega | (simp only [lenT]; omega)) only [hlt, hc, h1, h2, wrap_i64, any_of_get hc ho, ↓evPre, ↓evPreW, evPost, evPostW, evR, evU, seval]
        · have ho : oddC c = false := by simp [oddC]; omega
          simp (disch := first | omega | (simp only [lenT]; omega)) only [hlt, hc, h1, h2, wrap_i64, ↓evPre, ↓evPreW, evPost, evPostW, evR, evU, seval]
          exact ⟨k + 1, ⟨by omega, any_take_succ hc hall ho⟩, by omega, by omega⟩
def tagOk (l : List UInt8) : Bool := !l.any (fun c => !upC c) && decide (l.length = 3)
end Go.Proofs.YtlnpfnoemhjheaaGreatDoor.Ed
/- The builder. -/
namespace Go.Proofs.YtlnpfnoemhjheaaGreatDoor.Ed
open Go Go.AL
set_option linter.unusedSectionVars false
variable [Go.AL.Mode] [Go.AL.LooseM]
set_option linter.unusedSimpArgs false
set_option linter.unusedVariables false
def Bld (S T : Store) (p b : V) (bs : List UInt8) : Prop :=
  (p = .nilPtr ∧ b = .nilSl ∧ bs = []) ∨ (p = .ptr S.length 0 0 0 ∧ ∃ j v, b = .msl (S.length + (j + 1)) v 0 bs.length ∧ T.obj? j v = some (5, 1, strRows bs))
theorem strRows_len (l : List UInt8) : (strRows l).length = l.length := by simp [strRows]
theorem strRows_app (l m : List UInt8) : strRows (l ++ m) = strRows l ++ strRows m := by simp [strRows]
theorem copy_fresh (b : V) (S T : Store) : CallA Tryz.prog 79 [.ptr S.length 0 0 0] (S ++ ⟨0, some (.arr 113 2 [[.nilPtr, b]])⟩ :: T) fun r S' => r = .tup [] ∧ S' = S ++ ⟨0, some (.arr 113 2 [[.ptr S.length 0 0 0, b]])⟩ :: T := by
  refine CallA.keep Tryz.func79 c8040 (Nat.le_of_ble_eq_true rfl) fun σ hσ => ?_
  simp (disch := first | omega | (simp only [lenT]; omega)) only [a8040, ob_app, ob_app0, ob_cons, ob_head, se_app, se_app0, se_cons, se_head, toUO_some, frUO_some, eqO_some, ↓evPre, ↓evPreW, evPost, evPostW, evR, evU, seval]
theorem copy_used (b : V) (S T : Store) : CallA Tryz.prog 79 [.ptr S.length 0 0 0] (S ++ ⟨0, some (.arr 113 2 [[.ptr S.length 0 0 0, b]])⟩ :: T) fun r S' => r = .tup [] ∧ S' = S ++ ⟨0, some (.arr 113 2 [[.ptr S.length 0 0 0, b]])⟩ :: T := by
  refine CallA.keep Tryz.func79 c8040 (Nat.le_of_ble_eq_true rfl) fun σ hσ => ?_
  simp (disch := first | omega | (simp only [lenT]; omega)) only [a8040, ob_app, ob_app0, ob_cons, ob_head, se_app, se_app0, se_cons, se_head, toUO_some, frUO_some, eqO_some, ↓evPre, ↓evPreW, evPost, evPostW, evR, evU, seval]
theorem copy_A {S T : Store} {p b : V} {bs : List UInt8} (h : Bld S T p b bs) : CallA Tryz.prog 79 [.ptr S.length 0 0 0] (S ++ ⟨0, some (.arr 113 2 [[p, b]])⟩ :: T) fun r S' => r = .tup [] ∧ S' = S ++ ⟨0, some (.arr 113 2 [[.ptr S.length 0 0 0, b]])⟩ :: T := by
  rcases h with ⟨rfl, _⟩ | ⟨rfl, _⟩
  · exact copy_fresh b S T
  · exact copy_used b S T
def Keeps (T T' : Store) : Prop := ∀ k v t sz rows, t ≠ 5 → T.obj? k v = some (t, sz, rows) → T'.obj? k v = some (t, sz, rows)
theorem Keeps.refl (T : Store) : Keeps T T := fun _ _ _ _ _ _ h => h
theorem Keeps.trans {T T' T'' : Store} (h : Keeps T T') (h' : Keeps T' T'') : Keeps T T'' := fun k v t sz rows ht ho => h' k v t sz rows ht (h k v t sz rows ht ho)
theorem obj_lt {T : Store} {k v : Nat} {x : TypeId × Nat × List (List V)} (h : T.obj? k v = some x) : k < T.length := by
  obtain ⟨t, sz, rows⟩ := x
  exact (List.getElem?_eq_some_iff.1 (obj_some h)).1
theorem Keeps.push (T : Store) (o : AL.Obj) : Keeps T (T ++ [o]) := fun k v t sz rows _ h => by rw [ob_low (obj_lt h)]; exact h
theorem Keeps.set {T : Store} {j v v' : Nat} {rows rows' : List (List V)} (h : T.obj? j v = some (5, 1, rows)) : Keeps T (T.set j ⟨v', some (.arr 5 1 rows')⟩) := fun k u t sz rs ht ho => by
  by_cases hk : k = j
  · subst hk
    have h1 := obj_some h
    have h2 := obj_some ho
    rw [h1] at h2
    cases h2
    exact absurd rfl ht
  · simp only [Store.obj?] at ho ⊢
    rw [List.getElem?_set_ne (Ne.symm hk)]
    exact ho
theorem obj_set {T : Store} {j v v' : Nat} {x : TypeId × Nat × List (List V)} {t : TypeId} {sz : Nat} {rows : List (List V)} (h : T.obj? j v = some x) : Store.obj? (T.set j ⟨v', some (.arr t sz rows)⟩) j v' = some (t, sz, rows) := by
  simp [Store.obj?, List.getElem?_set_self (obj_lt h)]
theorem obj_push {T : Store} {v : Nat} {t : TypeId} {sz : Nat} {rows : List (List V)} : (T ++ [⟨v, some (.arr t sz rows)⟩] : Store).obj? T.length v = some (t, sz, rows) := by
  simp [Store.obj?]
def Wrote (S T : Store) (bs : List UInt8) (S' : Store) : Prop := ∃ T' p' b', S' = S ++ ⟨0, some (.arr 113 2 [[p', b']])⟩ :: T' ∧ Bld S T' p' b' bs ∧ Keeps T T'
theorem Bld.pushed {S T : Store} {bs : List UInt8} (p : V) (hp : p = .ptr S.length 0 0 0) : Wrote S T bs (S ++ ⟨0, some (.arr 113 2 [[p, .msl (S.length + (T.length + 1)) 0 0 bs.length]])⟩ :: (T ++ [⟨0, some (.arr 5 1 (strRows bs))⟩])) :=
  ⟨_, _, _, rfl, .inr ⟨hp, _, _, rfl, obj_push⟩, Keeps.push _ _⟩
theorem Bld.grown {S T : Store} {bs bs' : List UInt8} {j v : Nat} (h : T.obj? j v = some (5, 1, strRows bs)) (p : V) (hp : p = .ptr S.length 0 0 0) :
    Wrote S T bs' (S ++ ⟨0, some (.arr 113 2 [[p, .msl (S.length + (j + 1)) (v + 1) 0 bs'.length]])⟩ :: T.set j ⟨v + 1, some (.arr 5 1 (strRows bs'))⟩) :=
  ⟨_, _, _, rfl, .inr ⟨hp, _, _, rfl, obj_set h⟩, Keeps.set h⟩
theorem writeS_A {S T : Store} {p b : V} {bs : List UInt8} (h : Bld S T p b bs) (l : List UInt8) (hl : bs.length + l.length ≤ 4294967296) :
    CallA Tryz.prog 52 [.ptr S.length 0 0 0, .str l] (S ++ ⟨0, some (.arr 113 2 [[p, b]])⟩ :: T) fun r S' => r = .tup [.int .i64 l.length, .nilIface] ∧ Wrote S T (bs ++ l) S' := by
  refine CallA.keep Tryz.func52 c8020 (Nat.le_of_ble_eq_true rfl) fun σ hσ => ?_
  simp (disch := first | omega | (simp only [lenT]; omega)) only [a8020, ob_app, ob_app0, ob_cons, ob_head, se_app, se_app0, se_cons, se_head, ↓evPre, ↓evPreW, evPost, evPostW, evR, evU, seval]
  refine (copy_A h).mono ?_
  rintro _ _ ⟨rfl, rfl⟩
  rcases h with ⟨rfl, rfl, rfl⟩ | ⟨rfl, j, v, rfl, ho⟩
  · simp (disch := first | omega | (simp only [lenT]; omega)) only [ob_app, ob_app0, ob_cons, ob_head, se_app, se_app0, se_cons, se_head, srcS, strRows_len, ap_app, List.cons_append, le_app, List.length_cons, roomA, ↓evPre, ↓evPreW, evPost, evPostW, evR, evU, seval]
    exact ⟨by simpa using hl, Bld.pushed _ rfl⟩
  · simp (disch := first | omega | (simp only [lenT]; omega)) only [ob_app, ob_app0, ob_cons, ob_head, se_app, se_app0, se_cons, se_head, srcS, strRows_len, ap_app, List.cons_append, le_app, List.length_cons, roomA, ho, ↓evPre, ↓evPreW, evPost, evPostW, evR, evU, seval]
    refine ⟨hl, ?_⟩
    rw [← strRows_app, ← List.length_append]
    exact Bld.grown ho _ rfl
theorem writeB_A {S T : Store} {p b : V} {bs : List UInt8} (h : Bld S T p b bs) (c : UInt8) (hl : bs.length + 1 ≤ 4294967296) :
    CallA Tryz.prog 53 [.ptr S.length 0 0 0, .int .u8 c.toNat] (S ++ ⟨0, some (.arr 113 2 [[p, b]])⟩ :: T) fun r S' => r = .nilIface ∧ Wrote S T (bs ++ [c]) S' := by
  refine CallA.keep Tryz.func53 c8021 (Nat.le_of_ble_eq_true rfl) fun σ hσ => ?_
  simp (disch := first | omega | (simp only [lenT]; omega)) only [a8021, ob_app, ob_app0, ob_cons, ob_head, se_app, se_app0, se_cons, se_head, ↓evPre, ↓evPreW, evPost, evPostW, evR, evU, seval]
  refine (copy_A h).mono ?_
  rintro _ _ ⟨rfl, rfl⟩
  rcases h with ⟨rfl, rfl, rfl⟩ | ⟨rfl, j, v, rfl, ho⟩
  · simp (disch := first | omega | (simp only [lenT]; omega)) only [ob_app, ob_app0, ob_cons, ob_head, se_app, se_app0, se_cons, se_head, srcS, strRows_len, ap_app, List.cons_append, le_app, List.length_cons, List.length_nil, roomA, ↓evPre, ↓evPreW, evPost, evPostW, evR, evU, seval]
    exact Bld.pushed (bs := [c]) _ rfl
  · simp (disch := first | omega | (simp only [lenT]; omega)) only [ob_app, ob_app0, ob_cons, ob_head, se_app, se_app0, se_cons, se_head, srcS, strRows_len, ap_app, List.cons_append, le_app, List.length_cons, List.length_nil, roomA, ho, ↓evPre, ↓evPreW, evPost, evPostW, evR, evU, seval]
    refine ⟨by omega, ?_⟩
    have := Bld.grown (S := S) (bs' := bs ++ [c]) ho (.ptr S.length 0 0 0) rfl
    rw [strRows_app, List.length_append] at this
    exact this
theorem len_A {S T : Store} {p b : V} {bs : List UInt8} (h : Bld S T p b bs) : CallA Tryz.prog 55 [.ptr S.length 0 0 0] (S ++ ⟨0, some (.arr 113 2 [[p, b]])⟩ :: T) fun r S' => r = .int .i64 bs.length ∧ S' = S ++ ⟨0, some (.arr 113 2 [[p, b]])⟩ :: T := by
  refine CallA.keep Tryz.func55 c8023 (Nat.le_of_ble_eq_true rfl) fun σ hσ => ?_
  rcases h with ⟨rfl, rfl, rfl⟩ | ⟨rfl, j, v, rfl, ho⟩
  · simp (disch := first | omega | (simp only [lenT]; omega)) only [a8023, ob_app, ob_app0, ob_cons, ob_head, se_app, se_app0, se_cons, se_head, List.length_nil, ↓evPre, ↓evPreW, evPost, evPostW, evR, evU, seval]
  · simp (disch := first | omega | (simp only [lenT]; omega)) only [a8023, ob_app, ob_app0, ob_cons, ob_head, se_app, se_app0, se_cons, se_head, ho, ↓evPre, ↓evPreW, evPost, evPostW, evR, evU, seval]
theorem string_A {S T : Store} {p b : V} {bs : List UInt8} (h : Bld S T p b bs) (hn : bs ≠ [] ∨ p = .nilPtr) : CallA Tryz.prog 56 [.ptr S.length 0 0 0] (S ++ ⟨0, some (.arr 113 2 [[p, b]])⟩ :: T) fun r S' => r = .str bs ∧ ∃ L, S' = S ++ L := by
  refine CallA.keep Tryz.func56 c8024 (Nat.le_of_ble_eq_true rfl) fun σ hσ => ?_
  rcases h with ⟨rfl, rfl, rfl⟩ | ⟨rfl, j, v, rfl, ho⟩
  · simp (disch := first | omega | (simp only [lenT]; omega)) only [a8024, ob_app, ob_app0, ob_cons, ob_head, se_app, se_app0, se_cons, se_head, List.length_nil, uStrK, ↓evPre, ↓evPreW, evPost, evPostW, evR, evU, seval]
    exact ⟨_, rfl⟩
  · have hne : bs ≠ [] := by rcases hn with h | h; exact h; cases h
    have hpos : 0 < bs.length := List.length_pos_iff.2 hne
    simp (disch := first | omega | (simp only [lenT]; omega)) only [a8024, ob_app, ob_app0, ob_cons, ob_head, se_app, se_app0, se_cons, se_head, ho, hpos, sdatO_some, uStrK, ↓evPre, ↓evPreW, evPost, evPostW, evR, evU, seval]
    exact ⟨bs, rfl, rfl, hne, rfl, _, rfl⟩
end Go.Proofs.YtlnpfnoemhjheaaGreatDoor.Ed
