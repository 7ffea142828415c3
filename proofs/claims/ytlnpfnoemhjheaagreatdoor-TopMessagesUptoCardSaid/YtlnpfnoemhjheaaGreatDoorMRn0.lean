/- Numbers, plainly: what a text says, and that it says what was written. -/
import Derived.Test.YtlnpfnoemhjheaaGreatDoorMAlM
import Derived.Lib.AtoiAll
import Derived.Lib.ItoaNum
import Derived.Shelf.Small.Strs
import Derived.Shelf.Small.Wraps
import Derived.Shelf.Strconv.Atoi
import Derived.Shelf.Strconv.Itoa0
import Derived.Shelf.Strconv.Itoa1
import Derived.Shelf.LaysM
import Derived.Shelf.Strconv.Itoa2
import Derived.Shelf.Strconv.Itoa3
import Derived.Shelf.Strconv.AtoiErrFast
import Derived.Shelf.Strconv.ParseIntEmpty
import Derived.Shelf.Strconv.AtoiFail
import Derived.Shelf.Strconv.Clone
import Derived.Shelf.Strconv.SyntaxError
import Derived.Shelf.LaysC
import Derived.Shelf.Strconv.ToError
import Derived.Shelf.Strconv.AtoiErr
import Derived.Shelf.Strconv.ErrVar
import Derived.Shelf.Strconv.Lower
import Derived.Shelf.Strconv.ParseUint10
import Derived.Shelf.Strconv.ParseUint10Empty
import Derived.Shelf.Strconv.ParseUint10Any
import Derived.Shelf.Strconv.ParseInt10
import Derived.Shelf.Strconv.AtoiLong
import Derived.Shelf.Strconv.AtoiInnerAll
import Derived.Shelf.Strconv.RangeError
import Derived.Shelf.Strconv.ToErrorRange
import Derived.Shelf.Strconv.AtoiAll
import Derived.Shelf.Strconv.ErrVarAll
import Derived.Shelf.Strconv.ParseUintEmpty
import Derived.Shelf.Strconv.ParseUint10b64
import Derived.Shelf.Strconv.ParseUint10b32
import Derived.Shelf.Strconv.ParseUint10b16
import Derived.Shelf.Strconv.ParseUint10b8
import Derived.Shelf.Strconv.ParseUint10At
import Derived.Shelf.Strings.Search1
import Derived.Shelf.Strings.Prefix
import Derived.Ground.Names2Prog
import Derived.Test.YtlnpfnoemhjheaaGreatDoorProg
import Derived.Test.YtlnpfnoemhjheaaGreatDoorMRnC
import Derived.Test.YtlnpfnoemhjheaaGreatDoorMAlX
import Derived.Lib.ItoaLen
import Derived.Lib.SmallJoins
import Derived.Lib.AtoiAllCases
import Derived.Lib.AtoiErrMem
namespace Go.Proofs.YtlnpfnoemhjheaaGreatDoor
open Go Go.AL
set_option linter.unusedSectionVars false
variable [Go.AL.Mode] [Go.AL.LooseM]
set_option linter.unusedVariables false
abbrev Tx := List UInt8
def dig (c : UInt8) : Bool := decide (48 ≤ c.toNat) && decide (c.toNat ≤ 57)
def natF (a : Nat) (d : Tx) : Nat := d.foldl (fun a c => 10 * a + (c.toNat - 48)) a
def bodyF (s : Tx) : Tx := if s.head? = some 45 then s.drop 1 else s
def numF (s : Tx) : Int × Int :=
  if bodyF s = [] ∨ (bodyF s).all dig = false ∨ ((bodyF s).head? = some 48 ∧ s ≠ [48]) then (0, 3)
  else if s.head? = some 45 then (if natF 0 (bodyF s) ≤ 9223372036854775808 then (-(natF 0 (bodyF s) : Nat), 0) else (0, 4))
  else (if natF 0 (bodyF s) < 9223372036854775808 then ((natF 0 (bodyF s) : Nat), 0) else (0, 4))
theorem dig_iff {c : UInt8} : dig c = true ↔ 48 ≤ c.toNat ∧ c.toNat ≤ 57 := by simp [dig]
theorem natF_cons (a : Nat) (c : UInt8) (d : Tx) : natF a (c :: d) = natF (10 * a + (c.toNat - 48)) d := by simp only [natF, List.foldl_cons]
theorem natF_app (a : Nat) (d e : Tx) : natF a (d ++ e) = natF (natF a d) e := by simp [natF, List.foldl_append]
theorem natF_ge (d : Tx) : ∀ a : Nat, a ≤ natF a d := by
  induction d with
  | nil => intro a; exact Nat.le_refl _
  | cons c d ih =>
    intro a
    rw [natF_cons]
    exact Nat.le_trans (by omega) (ih _)
theorem parse_eq (d : Tx) : ∀ (a : Nat), a < 18446744073709551616 → d.all dig = true → Lib.parseUint10 a d = if natF a d < 18446744073709551616 then .ok (natF a d) else .range := by
  induction d with
  | nil =>
    intro a ha _
    have e : natF a [] = a := rfl
    rw [Lib.parseUint10, e, if_pos ha]
  | cons c d ih =>
    intro a ha hd
    rw [List.all_cons, Bool.and_eq_true] at hd
    have hc := dig_iff.1 hd.1
    rw [Lib.parseUint10, if_pos hc, natF_cons]
    have hg := natF_ge d (10 * a + (c.toNat - 48))
    by_cases h1 : 1844674407370955162 ≤ a
    · rw [if_pos h1, if_neg (by omega)]
    · rw [if_neg h1]
      by_cases h2 : 18446744073709551616 ≤ a * 10 + (c.toNat - 48)
      · rw [if_pos h2, if_neg (by omega)]
      · rw [if_neg h2, Nat.mul_comm a 10]
        exact ih _ (by omega) hd.2
theorem ofNat_dig {k : Nat} (h : k < 10) : (UInt8.ofNat (48 + k)).toNat = 48 + k := by
  rw [UInt8.toNat_ofNat']
  omega
theorem dec_spec : ∀ (n u : Nat), u < n → (Lib.decDigits u).all dig = true ∧ natF 0 (Lib.decDigits u) = u ∧ Lib.decDigits u ≠ [] ∧ ((Lib.decDigits u).head? = some 48 → u = 0)
  | 0, u, h => by omega
  | n + 1, u, h => by
    rw [Lib.decDigits]
    split
    · rename_i h10
      refine ⟨?_, ?_, by simp, fun e => ?_⟩
      · rw [List.all_cons, List.all_nil, Bool.and_true, dig_iff, ofNat_dig h10]
        omega
      · rw [natF_cons, ofNat_dig h10]
        show 10 * 0 + _ = _
        omega
      · simp only [List.head?_cons, Option.some.injEq] at e
        have := congrArg UInt8.toNat e
        rw [ofNat_dig h10] at this
        have h48 : (48 : UInt8).toNat = 48 := rfl
        omega
    · rename_i h10
      obtain ⟨h1, h2, h3, h4⟩ := dec_spec n (u / 10) (by omega)
      have hm : u % 10 < 10 := by omega
      refine ⟨?_, ?_, by simp, fun e => ?_⟩
      · rw [List.all_append, h1, List.all_cons, List.all_nil, Bool.and_true, Bool.true_and, dig_iff, ofNat_dig hm]
        omega
      · rw [natF_app, h2, natF_cons, ofNat_dig hm]
        show 10 * (u / 10) + _ = _
        omega
      · have hh : (Lib.decDigits (u / 10) ++ [UInt8.ofNat (48 + u % 10)]).head? = (Lib.decDigits (u / 10)).head? := by
          cases hd : Lib.decDigits (u / 10) with
          | nil => exact absurd hd h3
          | cons a l => rfl
        rw [hh] at e
        have := h4 e
        omega
theorem dec_one {u : Nat} (h : u = 0) : Lib.decDigits u = [48] := by
  subst h
  rw [Lib.decDigits, dif_pos (by decide)]
  rfl
theorem num_itoa (n : Int) (h0 : -9223372036854775808 ≤ n) (h1 : n ≤ 9223372036854775807) : numF (Lib.itoa n) = (n, 0) := by
  unfold Lib.itoa
  by_cases hn : n < 0
  · rw [if_pos hn]
    obtain ⟨d1, d2, d3, d4⟩ := dec_spec (n.natAbs + 1) n.natAbs (by omega)
    have hb : bodyF (45 :: Lib.decDigits n.natAbs) = Lib.decDigits n.natAbs := by simp [bodyF]
    unfold numF
    rw [hb, d2, d1, if_neg ?_, if_pos (by rfl), if_pos (by omega)]
    · rw [show (-(n.natAbs : Nat) : Int) = n by omega]
    · rintro (h | h | ⟨h, _⟩)
      · exact d3 h
      · cases h
      · have := d4 h
        omega
  · rw [if_neg hn]
    obtain ⟨d1, d2, d3, d4⟩ := dec_spec (n.toNat + 1) n.toNat (by omega)
    have hne : (Lib.decDigits n.toNat).head? ≠ some 45 := by
      cases hd : Lib.decDigits n.toNat with
      | nil => exact absurd hd d3
      | cons a l =>
        rw [hd, List.all_cons, Bool.and_eq_true] at d1
        have := dig_iff.1 d1.1
        simp only [List.head?_cons, ne_eq, Option.some.injEq]
        intro e
        rw [e] at this
        have h45 : (45 : UInt8).toNat = 45 := rfl
        omega
    have hb : bodyF (Lib.decDigits n.toNat) = Lib.decDigits n.toNat := by rw [bodyF, if_neg hne]
    unfold numF
    rw [hb, d2, d1, if_neg ?_, if_neg hne, if_pos (by omega)]
    · rw [show ((n.toNat : Nat) : Int) = n by omega]
    · rintro (h | h | ⟨h, h2⟩)
      · exact d3 h
      · cases h
      · exact h2 (dec_one (d4 h))
end Go.Proofs.YtlnpfnoemhjheaaGreatDoor
/- Contracts of the library, at this program (laid by the kit's tool, cut by cutshelf.py). -/
namespace Go.Proofs
open Go.Shelf
def Tryz.laysM171_ren : Go.Shelf.Ren := ⟨fun | 171 => 50 | 243 => 75 | 246 => 107 | 283 => 124 | 284 => 125 | 285 => 126 | 286 => 127 | 129 => 106 | 317 => 137 | 318 => 138 | 319 => 139 | 320 => 140 | 337 => 144 | 338 => 145 | n => n, fun | 3 => 3 | 9 => 9 | 2 => 2 | 4 => 4 | 171 => 190 | 0 => 0 | 53 => 122 | 37 => 111 | 5 => 5 | 173 => 192 | 212 => 206 | 51 => 174 | 20 => 20 | 213 => 207 | 46 => 140 | 232 => 217 | 233 => 218 | n => n, fun | 17 => 2 | 18 => 5 | 19 => 6 | n => n⟩
theorem Tryz.laysM171 : Go.Proofs.LaysM.n171 Tryz.prog Tryz.laysM171_ren := {
  mixed := by kernel_rfl
  f129 := Tryz.func106.trans (congrArg some (by kernel_rfl))
  f171 := Tryz.func50.trans (congrArg some (by kernel_rfl))
  f243 := Tryz.func75.trans (congrArg some (by kernel_rfl))
  f246 := Tryz.func107.trans (congrArg some (by kernel_rfl))
  f283 := Tryz.func124.trans (congrArg some (by kernel_rfl))
  f284 := Tryz.func125.trans (congrArg some (by kernel_rfl))
  f285 := Tryz.func126.trans (congrArg some (by kernel_rfl))
  f286 := Tryz.func127.trans (congrArg some (by kernel_rfl))
  f317 := Tryz.func137.trans (congrArg some (by kernel_rfl))
  f318 := Tryz.func138.trans (congrArg some (by kernel_rfl))
  f319 := Tryz.func139.trans (congrArg some (by kernel_rfl))
  f320 := Tryz.func140.trans (congrArg some (by kernel_rfl))
  f337 := Tryz.func144.trans (congrArg some (by kernel_rfl))
  f338 := Tryz.func145.trans (congrArg some (by kernel_rfl))
  t0 := Tryz.underlying0
  a0 := Tryz.isAgg0
  z0 := Tryz.sizeOf0
  v0 := Tryz.zeroValue0
  t2 := Tryz.underlying2
  a2 := Tryz.isAgg2
  z2 := Tryz.sizeOf2
  v2 := Tryz.zeroValue2
  t3 := Tryz.underlying3
  a3 := Tryz.isAgg3
  z3 := Tryz.sizeOf3
  v3 := Tryz.zeroValue3
  t4 := Tryz.underlying4
  a4 := Tryz.isAgg4
  z4 := Tryz.sizeOf4
  v4 := Tryz.zeroValue4
  t5 := Tryz.underlying5
  a5 := Tryz.isAgg5
  z5 := Tryz.sizeOf5
  v5 := Tryz.zeroValue5
  t9 := Tryz.underlying9
  a9 := Tryz.isAgg9
  z9 := Tryz.sizeOf9
  v9 := Tryz.zeroValue9
  t20 := Tryz.underlying20
  a20 := Tryz.isAgg20
  z20 := Tryz.sizeOf20
  v20 := Tryz.zeroValue20
  t37 := Tryz.underlying111
  a37 := Tryz.isAgg111
  z37 := Tryz.sizeOf111
  v37 := Tryz.zeroValue111
  t46 := Tryz.underlying140
  a46 := Tryz.isAgg140
  z46 := Tryz.sizeOf140
  v46 := Tryz.zeroValue140
  t51 := Tryz.underlying174
  a51 := Tryz.isAgg174
  z51 := Tryz.sizeOf174
  v51 := Tryz.zeroValue174
  t53 := Tryz.underlying122
  a53 := Tryz.isAgg122
  z53 := Tryz.sizeOf122
  v53 := Tryz.zeroValue122
  t171 := Tryz.underlying190
  a171 := Tryz.isAgg190
  z171 := Tryz.sizeOf190
  v171 := Tryz.zeroValue190
  t173 := Tryz.underlying192
  a173 := Tryz.isAgg192
  z173 := Tryz.sizeOf192
  v173 := Tryz.zeroValue192
  t212 := Tryz.underlying206
  a212 := Tryz.isAgg206
  z212 := Tryz.sizeOf206
  v212 := Tryz.zeroValue206
  t213 := Tryz.underlying207
  a213 := Tryz.isAgg207
  z213 := Tryz.sizeOf207
  t232 := Tryz.underlying217
  a232 := Tryz.isAgg217
  z232 := Tryz.sizeOf217
  v232 := Tryz.zeroValue217
  t233 := Tryz.underlying218
  a233 := Tryz.isAgg218
  z233 := Tryz.sizeOf218
  v233 := Tryz.zeroValue218
  g17 := by kernel_rfl
  g18 := by kernel_rfl
  g19 := by kernel_rfl
  i0 := by kernel_rfl
  i2 := by kernel_rfl
  i3 := by kernel_rfl
  i4 := by kernel_rfl
  i5 := by kernel_rfl
  i9 := by kernel_rfl
  i20 := by kernel_rfl
  i37 := by kernel_rfl
  i46 := by kernel_rfl
  i51 := by kernel_rfl
  i53 := by kernel_rfl
  i171 := by kernel_rfl
  i173 := by kernel_rfl
  i212 := by kernel_rfl
  i232 := by kernel_rfl
  i233 := by kernel_rfl
  m17 := by kernel_rfl
  m18 := by kernel_rfl
  m19 := by kernel_rfl }
open Go.RowKit Go.Sort Go.Lib in
theorem Tryz.strconv_Itoa (n : Int) (h0 : -9223372036854775808 ≤ n) (h1 : n ≤ 9223372036854775807) (w : World) (htab : Lib.TabIs Tryz.prog w "internal/strconv.uint64pow10" .u64 Lib.pow10Tab) :
    Calls Tryz.prog 50 #[.int .i64 n] w fun e w' => e = .returned (.string ⟨(Lib.itoa n).toArray⟩) ∧ ∃ k os, w' = grow (w.drewN k) os := Any.strconv_Itoa Tryz.laysM171 n h0 h1 w htab
def Tryz.laysC172_ren : Go.Shelf.Ren := ⟨fun | 172 => 88 | 244 => 116 | 245 => 117 | 247 => 131 | 279 => 132 | 280 => 133 | 281 => 134 | 282 => 135 | 287 => 141 | 316 => 142 | 171 => 50 | 205 => 143 | 321 => 146 | 322 => 147 | 243 => 75 | 246 => 107 | 283 => 124 | 284 => 125 | 285 => 126 | 286 => 127 | 129 => 106 | 317 => 137 | 318 => 138 | 319 => 139 | 320 => 140 | 337 => 144 | 338 => 145 | n => n, fun | 9 => 9 | 3 => 3 | 75 => 115 | 76 => 116 | 4 => 4 | 5 => 5 | 167 => 196 | 37 => 111 | 0 => 0 | 85 => 197 | 2 => 2 | 168 => 199 | 53 => 122 | 175 => 208 | 46 => 140 | 210 => 211 | 127 => 145 | 145 => 216 | 143 => 214 | 21 => 21 | 171 => 190 | 173 => 192 | 212 => 206 | 51 => 174 | 20 => 20 | 213 => 207 | 232 => 217 | 233 => 218 | 80 => 120 | n => n, fun | 15 => 3 | 16 => 4 | 17 => 2 | 18 => 5 | 19 => 6 | n => n⟩
theorem Tryz.laysC172 : Go.Proofs.LaysC.n172 Tryz.prog Tryz.laysC172_ren := {
  mixed := by kernel_rfl
  f129 := Tryz.func106.trans (congrArg some (by kernel_rfl))
  f171 := Tryz.func50.trans (congrArg some (by kernel_rfl))
  f172 := Tryz.func88.trans (congrArg some (by kernel_rfl))
  f205 := Tryz.func143.trans (congrArg some (by kernel_rfl))
  f243 := Tryz.func75.trans (congrArg some (by kernel_rfl))
  f244 := Tryz.func116.trans (congrArg some (by kernel_rfl))
  f245 := Tryz.func117.trans (congrArg some (by kernel_rfl))
  f246 := Tryz.func107.trans (congrArg some (by kernel_rfl))
  f247 := Tryz.func131.trans (congrArg some (by kernel_rfl))
  f279 := Tryz.func132.trans (congrArg some (by kernel_rfl))
  f280 := Tryz.func133.trans (congrArg some (by kernel_rfl))
  f281 := Tryz.func134.trans (congrArg some (by kernel_rfl))
  f282 := Tryz.func135.trans (congrArg some (by kernel_rfl))
  f283 := Tryz.func124.trans (congrArg some (by kernel_rfl))
  f284 := Tryz.func125.trans (congrArg some (by kernel_rfl))
  f285 := Tryz.func126.trans (congrArg some (by kernel_rfl))
  f286 := Tryz.func127.trans (congrArg some (by kernel_rfl))
  f287 := Tryz.func141.trans (congrArg some (by kernel_rfl))
  f316 := Tryz.func142.trans (congrArg some (by kernel_rfl))
  f317 := Tryz.func137.trans (congrArg some (by kernel_rfl))
  f318 := Tryz.func138.trans (congrArg some (by kernel_rfl))
  f319 := Tryz.func139.trans (congrArg some (by kernel_rfl))
  f320 := Tryz.func140.trans (congrArg some (by kernel_rfl))
  f321 := Tryz.func146.trans (congrArg some (by kernel_rfl))
  f322 := Tryz.func147.trans (congrArg some (by kernel_rfl))
  f337 := Tryz.func144.trans (congrArg some (by kernel_rfl))
  f338 := Tryz.func145.trans (congrArg some (by kernel_rfl))
  t0 := Tryz.underlying0
  a0 := Tryz.isAgg0
  z0 := Tryz.sizeOf0
  v0 := Tryz.zeroValue0
  t2 := Tryz.underlying2
  a2 := Tryz.isAgg2
  z2 := Tryz.sizeOf2
  v2 := Tryz.zeroValue2
  t3 := Tryz.underlying3
  a3 := Tryz.isAgg3
  z3 := Tryz.sizeOf3
  v3 := Tryz.zeroValue3
  t4 := Tryz.underlying4
  a4 := Tryz.isAgg4
  z4 := Tryz.sizeOf4
  v4 := Tryz.zeroValue4
  t5 := Tryz.underlying5
  a5 := Tryz.isAgg5
  z5 := Tryz.sizeOf5
  v5 := Tryz.zeroValue5
  t9 := Tryz.underlying9
  a9 := Tryz.isAgg9
  z9 := Tryz.sizeOf9
  v9 := Tryz.zeroValue9
  t20 := Tryz.underlying20
  a20 := Tryz.isAgg20
  z20 := Tryz.sizeOf20
  v20 := Tryz.zeroValue20
  t21 := Tryz.underlying21
  a21 := Tryz.isAgg21
  z21 := Tryz.sizeOf21
  v21 := Tryz.zeroValue21
  t37 := Tryz.underlying111
  a37 := Tryz.isAgg111
  z37 := Tryz.sizeOf111
  v37 := Tryz.zeroValue111
  t46 := Tryz.underlying140
  a46 := Tryz.isAgg140
  z46 := Tryz.sizeOf140
  v46 := Tryz.zeroValue140
  t51 := Tryz.underlying174
  a51 := Tryz.isAgg174
  z51 := Tryz.sizeOf174
  v51 := Tryz.zeroValue174
  t53 := Tryz.underlying122
  a53 := Tryz.isAgg122
  z53 := Tryz.sizeOf122
  v53 := Tryz.zeroValue122
  t75 := Tryz.underlying115
  a75 := Tryz.isAgg115
  z75 := Tryz.sizeOf115
  v75 := Tryz.zeroValue115
  t76 := Tryz.underlying116
  a76 := Tryz.isAgg116
  z76 := Tryz.sizeOf116
  v76 := Tryz.zeroValue116
  t85 := Tryz.underlying197
  a85 := Tryz.isAgg197
  z85 := Tryz.sizeOf197
  v85 := Tryz.zeroValue197
  t127 := Tryz.underlying145
  a127 := Tryz.isAgg145
  z127 := Tryz.sizeOf145
  v127 := Tryz.zeroValue145
  t143 := Tryz.underlying214
  a143 := Tryz.isAgg214
  z143 := Tryz.sizeOf214
  v143 := Tryz.zeroValue214
  t145 := Tryz.underlying216
  a145 := Tryz.isAgg216
  z145 := Tryz.sizeOf216
  v145 := Tryz.zeroValue216
  t167 := Tryz.underlying196
  a167 := Tryz.isAgg196
  z167 := Tryz.sizeOf196
  v167 := Tryz.zeroValue196
  t168 := Tryz.underlying199
  a168 := Tryz.isAgg199
  z168 := Tryz.sizeOf199
  v168 := Tryz.zeroValue199
  t171 := Tryz.underlying190
  a171 := Tryz.isAgg190
  z171 := Tryz.sizeOf190
  v171 := Tryz.zeroValue190
  t173 := Tryz.underlying192
  a173 := Tryz.isAgg192
  z173 := Tryz.sizeOf192
  v173 := Tryz.zeroValue192
  t175 := Tryz.underlying208
  a175 := Tryz.isAgg208
  z175 := Tryz.sizeOf208
  v175 := Tryz.zeroValue208
  t210 := Tryz.underlying211
  a210 := Tryz.isAgg211
  z210 := Tryz.sizeOf211
  v210 := Tryz.zeroValue211
  t212 := Tryz.underlying206
  a212 := Tryz.isAgg206
  z212 := Tryz.sizeOf206
  v212 := Tryz.zeroValue206
  t213 := Tryz.underlying207
  a213 := Tryz.isAgg207
  z213 := Tryz.sizeOf207
  t232 := Tryz.underlying217
  a232 := Tryz.isAgg217
  z232 := Tryz.sizeOf217
  v232 := Tryz.zeroValue217
  t233 := Tryz.underlying218
  a233 := Tryz.isAgg218
  z233 := Tryz.sizeOf218
  v233 := Tryz.zeroValue218
  g15 := by kernel_rfl
  g16 := by kernel_rfl
  g17 := by kernel_rfl
  g18 := by kernel_rfl
  g19 := by kernel_rfl
  t80 := Tryz.underlying120
  a80 := Tryz.isAgg120
  z80 := Tryz.sizeOf120
  v80 := Tryz.zeroValue120
  i0 := by kernel_rfl
  i2 := by kernel_rfl
  i3 := by kernel_rfl
  i4 := by kernel_rfl
  i5 := by kernel_rfl
  i9 := by kernel_rfl
  i20 := by kernel_rfl
  i21 := by kernel_rfl
  i37 := by kernel_rfl
  i46 := by kernel_rfl
  i51 := by kernel_rfl
  i53 := by kernel_rfl
  i75 := by kernel_rfl
  i76 := by kernel_rfl
  i80 := by kernel_rfl
  i85 := by kernel_rfl
  i127 := by kernel_rfl
  i143 := by kernel_rfl
  i145 := by kernel_rfl
  i167 := by kernel_rfl
  i168 := by kernel_rfl
  i171 := by kernel_rfl
  i173 := by kernel_rfl
  i175 := by kernel_rfl
  i210 := by kernel_rfl
  i212 := by kernel_rfl
  i232 := by kernel_rfl
  i233 := by kernel_rfl
  m15 := by kernel_rfl
  m16 := by kernel_rfl
  m17 := by kernel_rfl
  m18 := by kernel_rfl
  m19 := by kernel_rfl
  c0 := by kernel_rfl
  c2 := by kernel_rfl
  c3 := by kernel_rfl
  c4 := by kernel_rfl
  c5 := by kernel_rfl
  c9 := by kernel_rfl
  c20 := by kernel_rfl
  c21 := by kernel_rfl
  c37 := by kernel_rfl
  c46 := by kernel_rfl
  c51 := by kernel_rfl
  c53 := by kernel_rfl
  c75 := by kernel_rfl
  c76 := by kernel_rfl
  c80 := by kernel_rfl
  c85 := by kernel_rfl
  c127 := by kernel_rfl
  c143 := by kernel_rfl
  c145 := by kernel_rfl
  c167 := by kernel_rfl
  c168 := by kernel_rfl
  c171 := by kernel_rfl
  c173 := by kernel_rfl
  c175 := by kernel_rfl
  c210 := by kernel_rfl
  c212 := by kernel_rfl
  c213 := by kernel_rfl
  c232 := by kernel_rfl
  c233 := by kernel_rfl }
open Go.RowKit in
theorem Tryz.strconv_Atoi_ok (s : ByteArray) (hmax : s.size ≤ 9223372036854775806) (v : Int) (h : Lib.atoiAll s.data.toList = .ok v) (w : World) :
    Calls Tryz.prog 88 #[.string s] w fun e w' => e = .returned (.tuple #[.int .i64 v, .nilIface]) ∧ (w' = w ∨ ∃ t, w' = Lib.bytesWorld w 5 t) := Any.strconv_Atoi_ok Tryz.laysC172 s hmax v h w
open Go.RowKit in
theorem Tryz.strconv_Atoi_range (s : ByteArray) (hlim : s.size ≤ 281474976710656) (h : Lib.atoiAll s.data.toList = .range) (ev : Value) (w : World) (hv : w.cell? ⟨4, 0, none⟩ = some ev) (hev : ev = .nilIface ∨ ∃ te pe, ev = .iface te pe) :
    Calls Tryz.prog 88 #[.string s] w fun e w' => ∃ N, e = .returned (.tuple #[.int .i64 (Lib.atoiSat s.data.toList), .iface 199 (.pointer (some ⟨N, 0, none⟩))]) ∧ w.heap.size ≤ N ∧ w'.heap[N]? = some (.cells #[.string ⟨#[65, 116, 111, 105]⟩, .string s, ev] 211 (0, 0)) ∧ Below w.heap.size w w' := Any.strconv_Atoi_range Tryz.laysC172 s hlim h ev w hv hev
def Tryz.lays101_ren : Go.Shelf.Ren := ⟨fun | 101 => 85 | 208 => 115 | 206 => 130 | n => n, fun | 9 => 9 | 4 => 4 | 3 => 3 | n => n, fun | n => n⟩
theorem Tryz.lays101 : Go.Proofs.Lays.n101 Tryz.prog Tryz.lays101_ren := {
  mixed := by kernel_rfl
  f101 := Tryz.func85.trans (congrArg some (by kernel_rfl))
  f206 := Tryz.func130.trans (congrArg some (by kernel_rfl))
  f208 := Tryz.func115.trans (congrArg some (by kernel_rfl))
  t3 := Tryz.underlying3
  a3 := Tryz.isAgg3
  z3 := Tryz.sizeOf3
  v3 := Tryz.zeroValue3
  t4 := Tryz.underlying4
  a4 := Tryz.isAgg4
  z4 := Tryz.sizeOf4
  v4 := Tryz.zeroValue4
  t9 := Tryz.underlying9
  a9 := Tryz.isAgg9
  z9 := Tryz.sizeOf9
  v9 := Tryz.zeroValue9 }
open Go.RowKit Go.Lib in
theorem Tryz.strings_TrimPrefix (s p : ByteArray) (w : World) :
    Calls Tryz.prog 85 #[.string s, .string p] w fun e w' => e = .returned (.string ⟨(Lib.trimPrefix s.data.toList p.data.toList).toArray⟩) ∧ w' = w := Any.strings_TrimPrefix Tryz.lays101 s p w
end Go.Proofs
/- Numbers: what the program writes and reads. -/
namespace Go.Proofs.YtlnpfnoemhjheaaGreatDoor
open Go Go.AL Go.RowKit Go.Sort
set_option linter.unusedSectionVars false
variable [Go.AL.Mode] [Go.AL.LooseM]
set_option linter.unusedSimpArgs false
set_option linter.unusedVariables false
theorem ext_grow (ρ : AL.Place) (S : Store) (w : World) (k : Nat) (os : Array Go.Obj) : Ext ρ S w ρ S (grow (w.drewN k) os) := by
  have hb : ∀ g, g < w.heap.size → (grow (w.drewN k) os).heap[g]? = w.heap[g]? := fun g hg => by
    show (w.heap ++ os)[g]? = _
    rw [Array.getElem?_append_left hg]
  refine ⟨rfl, ⟨rfl, fun _ => Nat.le_add_right _ _⟩, rfl, ?_, fun g hg => ⟨⟨?_, hg.2⟩, hb g hg.1⟩, Nat.le_refl _, fun id o o' h h' => ?_⟩
  · show _ ≤ (w.heap ++ os).size
    rw [Array.size_append]; omega
  · show _ < (w.heap ++ os).size
    rw [Array.size_append]; have := hg.1; omega
  · rw [h] at h'; cases h'; exact ⟨Nat.le_refl _, fun _ c hc => ⟨c, hc, Cont.like_refl c, rfl⟩⟩
theorem inv_ext0 {ρ : AL.Place} {S : Store} {w w' : World} (hi : AL.Inv ρ S w) (hx : Ext ρ S w ρ S w') (hb : ∀ g, g < w.heap.size → w'.heap[g]? = w.heap[g]?) : AL.Inv ρ S w' := by
  refine inv_below hi ⟨hx.os, hx.tape.1, hx.output, hx.size, fun i h => hb i h⟩
theorem inv_grow {ρ : AL.Place} {S : Store} {w : World} (hi : AL.Inv ρ S w) (k : Nat) (os : Array Go.Obj) : AL.Inv ρ S (grow (w.drewN k) os) :=
  inv_ext0 hi (ext_grow ρ S w k os) fun g hg => by
    show (w.heap ++ os)[g]? = _
    rw [Array.getElem?_append_left hg]
theorem glob2 : Tryz.prog.globalNamed "internal/strconv.uint64pow10" = some 2 := by kernel_rfl
theorem tab2 {ρ : AL.Place} {S : Store} {w : World} (hi : AL.Inv ρ S w) : Lib.TabIs Tryz.prog w "internal/strconv.uint64pow10" .u64 Lib.pow10Tab := by
  obtain ⟨_, t, fr, hh⟩ : Unowned ρ S w 2 ∧ ∃ t fr, w.heap[2]? = some (.cells (Lib.pow10Tab.map fun z => Value.int .u64 z).toArray t fr) := by
    first
      | exact hi.tab (2, _) (List.mem_cons_of_mem _ (List.mem_cons_self ..))
      | exact hi.tab (2, _) (List.mem_cons_self ..)
  unfold Lib.TabIs World.var?
  rw [glob2]
  show (match w.heap[2]? with | some (.cells cs _ _) => some cs | _ => none) = _
  rw [show w.heap[2]? = _ from hh]
theorem err4 {ρ : AL.Place} {S : Store} {w : World} (hi : AL.Inv ρ S w) : w.cell? ⟨4, 0, none⟩ = some Mode.err := by
  obtain ⟨_, t, fr, hh⟩ : Unowned ρ S w 4 ∧ ∃ t fr, w.heap[4]? = some (.cells #[Mode.err] t fr) := by
    first
      | exact hi.tab (4, _) (List.mem_cons_of_mem _ (List.mem_cons_of_mem _ (List.mem_cons_self ..)))
      | exact hi.tab (4, _) (List.mem_cons_of_mem _ (List.mem_cons_self ..))
  unfold World.cell?
  rw [show w.heap[4]? = _ from hh]
  rfl
theorem one_val {ρ : AL.Place} {S : Store} {w : World} {v : V} {us : Array Value} (hv : VRs ρ S w [v] us) : ∃ u, us = #[u] ∧ VR ρ S w false v u := by
  obtain ⟨hl, hv⟩ := hv
  obtain ⟨u, hu, hr⟩ := hv 0 _ rfl
  refine ⟨u, ?_, hr⟩
  apply Array.ext
  · simpa using hl
  · intro i hi1 hi2
    have h0' : i = 0 := by simp at hi2; exact hi2
    subst h0'
    rw [Array.getElem?_eq_getElem hi1] at hu
    exact Option.some.inj hu
theorem itoaG_A {S : Store} (n : Int) (h0 : -9223372036854775808 ≤ n) (h1 : n ≤ 9223372036854775807) : CallA Tryz.prog 50 [.int .i64 n] S fun r S' => r = .str (Lib.itoa n) ∧ S' = S := by
  refine ⟨⟨Tryz.f50, Tryz.func50, by kernel_rfl, by kernel_rfl⟩, fun ρ w us hi hv => ?_⟩
  obtain ⟨u, rfl, hr⟩ := one_val hv
  cases hr
  refine (Go.Proofs.Tryz.strconv_Itoa n h0 h1 w (tab2 hi)).mono fun en w' ⟨he, k, os, hw⟩ => ?_
  subst hw
  refine ⟨ρ, S, _, _, he, .str (by simp) ?_, inv_grow hi k os, ext_grow ρ S w k os, rfl, rfl⟩
  have := Lib.itoa_length_le n h0 h1
  show (Lib.itoa n).toArray.size ≤ maxLen
  rw [List.size_toArray]
  unfold maxLen
  omega
theorem itoa_len (n : Int) (h0 : -9223372036854775808 ≤ n) (h1 : n ≤ 9223372036854775807) : (Lib.itoa n).length ≤ 21 := Lib.itoa_length_le n h0 h1
theorem decimal_A {S : Store} (n : Int) (h0 : -9223372036854775808 ≤ n) (h1 : n ≤ 9223372036854775807) : CallA Tryz.prog 24 [.int .i64 n] S fun r S' => r = .str (Lib.itoa n) ∧ S' = S := by
  refine CallA.keep Tryz.func24 c9024 (Nat.le_of_ble_eq_true rfl) fun σ hσ => ?_
  simp (disch := first | omega | (simp only [lenT]; omega)) only [a9024, evSt, ↓evPre, ↓evPreW, evPost, evPostW, evR, evU, seval]
  refine (itoaG_A n h0 h1).then ?_
  simp (disch := first | omega | (simp only [lenT]; omega)) only [evSt, ↓evPre, ↓evPreW, evPost, evPostW, evR, evU, seval]
theorem body_len (s : Tx) : (bodyF s).length ≤ s.length := by
  unfold bodyF
  split
  · rw [List.length_drop]; omega
  · exact Nat.le_refl _
theorem trim_A {S : Store} (s : Tx) : CallA Tryz.prog 85 [.str s, .str [45]] S fun r S' => r = .str (bodyF s) ∧ S' = S := by
  refine ⟨⟨Tryz.f85, Tryz.func85, by kernel_rfl, by kernel_rfl⟩, fun ρ w us hi hv => ?_⟩
  obtain ⟨u, x, rfl, hu, hx⟩ := hv.two
  cases hu with
  | str h1 h2 =>
  rename_i s1
  cases hx with
  | str h3 h4 =>
  rename_i s2
  refine (Go.Proofs.Tryz.strings_TrimPrefix s1 s2 w).mono fun en w' ⟨he, hw⟩ => ?_
  subst hw
  have hb : Lib.trimPrefix s [45] = bodyF s := by
    unfold Lib.trimPrefix bodyF Lib.hasPrefix
    cases s with
    | nil => rfl
    | cons c r =>
      by_cases hc : c = 45
      · subst hc
        simp [List.isPrefixOf]
      · have : (45 : UInt8) ≠ c := fun e => hc e.symm
        simp [List.isPrefixOf, hc, this]
  rw [h1, h3, hb] at he
  refine ⟨ρ, S, _, _, he, .str (by simp) ?_, hi, AL.Ext.refl _ _ _, rfl, rfl⟩
  have := body_len s
  have hs : s1.size = s.length := by rw [← h1]; rfl
  show (bodyF s).toArray.size ≤ maxLen
  rw [List.size_toArray]
  omega
theorem dig_A (c : UInt8) (S : Store) : CallA Tryz.prog 87 [.int .u8 c.toNat] S fun r S' => r = .bool (dig c) ∧ S' = S := by
  refine CallA.keep Tryz.func87 c9087 (Nat.le_of_ble_eq_true rfl) fun σ hσ => ?_
  by_cases h1 : (48 : Int) ≤ (c.toNat : Nat)
  · have e : dig c = decide ((c.toNat : Int) ≤ 57) := by
      unfold dig
      rw [decide_eq_true (by omega : 48 ≤ c.toNat), Bool.true_and]
      exact decide_eq_decide.2 (by omega)
    simp (disch := first | omega | (simp only [lenT]; omega)) only [a9087, decide_eq_true h1, e, evSt, ↓evPre, ↓evPreW, evPost, evPostW, evR, evU, seval]
  · have e : dig c = false := by
      unfold dig
      rw [decide_eq_false (by omega : ¬ 48 ≤ c.toNat), Bool.false_and]
    simp (disch := first | omega | (simp only [lenT]; omega)) only [a9087, decide_eq_false h1, e, evSt, ↓evPre, ↓evPreW, evPost, evPostW, evR, evU, seval]
theorem every_A (s : Tx) (hl : s.length ≤ 1000000) (S : Store) : CallA Tryz.prog 86 [.str s, .func 87 [] []] S fun r S' => r = .bool (s.all dig) ∧ S' = S := by
  refine CallA.keep Tryz.func86 c9086 (Nat.le_of_ble_eq_true rfl) fun σ hσ => ?_
  simp (disch := first | omega | (simp only [lenT]; omega)) only [a9086, evSt, ↓evPre, ↓evPreW, evPost, evPostW, evR, evU, seval]
  refine loopA (ι := Nat) (fun k => [(0, .str s), (1, .func 87 [] []), (7, .int .i64 s.length), (8, .int .i64 (k : Nat))]) (fun _ => S) (fun k => k ≤ s.length ∧ (s.take k).all dig = true) (fun k => s.length - k) 0 ⟨Nat.zero_le _, rfl⟩ ?_ rfl ?_
  · simp only [↓evPre, ↓evPreW, evPost, evPostW, evR, evU, seval]
    try rfl
  rintro k ⟨hk, ha⟩
  cases hc : s[k]? with
  | none =>
    have hge := List.getElem?_eq_none_iff.1 hc
    have hlt : ¬ ((k : Int) < s.length) := by omega
    rw [List.take_of_length_le hge] at ha
    simp (disch := first | omega | (simp only [lenT]; omega)) only [decide_eq_false hlt, ha, evSt, ↓evPre, ↓evPreW, evPost, evPostW, evR, evU, seval]
  | some c =>
    have hlt' := (List.getElem?_eq_some_iff.1 hc).1
    have hlt : (k : Int) < s.length := by omega
    have hk1 : (k : Int) + 1 = ((k + 1 : Nat) : Int) := by omega
    simp (disch := first | omega | (simp only [lenT]; omega)) only [decide_eq_true hlt, hc, evSt, ↓evPre, ↓evPreW, evPost, evPostW, evR, evU, seval]
    refine (dig_A c S).then ?_
    cases hd : dig c
    · have hf : s.all dig = false := by
        rw [← Bool.not_eq_true]
        intro h
        have := List.all_eq_true.1 h c (List.mem_of_getElem? hc)
        rw [hd] at this
        cases this
      simp (disch := first | omega | (simp only [lenT]; omega)) only [hf, Bool.not_false, evSt, ↓evPre, ↓evPreW, evPost, evPostW, evR, evU, seval]
    · simp (disch := first | omega | (simp only [lenT]; omega)) only [wrap_i64, hk1, Bool.not_true, evSt, ↓evPre, ↓evPreW, evPost, evPostW, evR, evU, seval]
      refine ⟨k + 1, ⟨by omega, ?_⟩, by omega, by first | rfl | exact ⟨rfl, rfl⟩ | exact ⟨rfl, rfl, rfl⟩⟩
      rw [List.take_add_one, hc, Option.toList_some, List.all_append, ha, List.all_cons, hd]
      rfl
def fitF (s : Tx) : Bool := if s.head? = some 45 then decide (natF 0 (bodyF s) ≤ 9223372036854775808) else decide (natF 0 (bodyF s) < 9223372036854775808)
def valF (s : Tx) : Int := if s.head? = some 45 then -(natF 0 (bodyF s) : Nat) else (natF 0 (bodyF s) : Nat)
theorem atoi_eq (s : Tx) (hne : bodyF s ≠ []) (hd : (bodyF s).all dig = true) : Lib.atoiAll s = if fitF s = true then .ok (valF s) else .range := by
  have hp : Lib.parseMag (bodyF s) = if natF 0 (bodyF s) < 18446744073709551616 then .ok (natF 0 (bodyF s)) else .range := by
    rw [Lib.parseMag, if_neg hne, parse_eq _ _ (by decide) hd]
  cases s with
  | nil => exact absurd rfl hne
  | cons c r =>
    by_cases hc : c = 45
    · subst hc
      have hb : bodyF (45 :: r) = r := by simp [bodyF]
      have h45 : (45 : UInt8).toNat = 45 := rfl
      rw [hb] at hp
      unfold Lib.atoiAll fitF valF
      rw [hb]
      simp only [h45, or_true, if_true, hp, List.head?_cons]
      by_cases h1 : natF 0 r < 18446744073709551616
      · simp only [h1, if_true, not_true_eq_false, false_and, if_false, true_and]
        by_cases h2 : natF 0 r ≤ 9223372036854775808
        · simp [h2, Nat.not_lt.2 h2]
        · simp [h2, Nat.not_le.1 h2]
      · simp only [h1, if_false]
        have h2 : ¬ natF 0 r ≤ 9223372036854775808 := by omega
        simp [h2]
    · have hh : (c :: r).head? ≠ some 45 := by simp [hc]
      have hb : bodyF (c :: r) = c :: r := by rw [bodyF, if_neg hh]
      rw [hb] at hp hd
      rw [List.all_cons, Bool.and_eq_true] at hd
      have hcd := dig_iff.1 hd.1
      unfold fitF valF
      rw [hb, Lib.atoiAll_plain c r (by omega) (by omega), hp]
      simp only [if_neg hh]
      by_cases h1 : natF 0 (c :: r) < 18446744073709551616
      · rw [if_pos h1]
        by_cases h2 : natF 0 (c :: r) < 9223372036854775808
        · simp [Lib.signless, h2, Nat.not_le.2 h2]
        · simp [Lib.signless, h2, Nat.not_lt.1 h2]
      · rw [if_neg h1]
        have h2 : ¬ natF 0 (c :: r) < 9223372036854775808 := by omega
        simp [Lib.signless, h2]
theorem atoi_A {S : Store} (s : Tx) (hne : bodyF s ≠ []) (hd : (bodyF s).all dig = true) (hl : s.length ≤ 1000000) : CallA Tryz.prog 88 [.str s] S fun r S' => (if fitF s = true then r = .tup [.int .i64 (valF s), .nilIface] else ∃ x : Int, r = .tup [.int .i64 x, .iface 199 .undef]) ∧ S' = S := by
  refine ⟨⟨Tryz.f88, Tryz.func88, by kernel_rfl, by kernel_rfl⟩, fun ρ w us hi hv => ?_⟩
  obtain ⟨u, rfl, hr⟩ := one_val hv
  cases hr with
  | str h1 h2 =>
  rename_i s1
  have hs : s1.size = s.length := by rw [← h1]; rfl
  have ha := atoi_eq s hne hd
  rw [← h1] at ha
  rw [h1] at ha
  by_cases hf : fitF s = true
  · rw [if_pos hf] at ha
    refine (Go.Proofs.Tryz.strconv_Atoi_ok s1 (by omega) (valF s) (by rw [h1]; exact ha) w).mono fun en w' ⟨he, hw⟩ => ?_
    have hB : Below w.heap.size w w' := by
      rcases hw with rfl | ⟨t, rfl⟩
      · exact Below.refl _ _
      · exact Lib.bytesWorld_below _ _ _
    refine ⟨ρ, S, .tup [.int .i64 (valF s), .nilIface], _, he, ?_, inv_below hi hB, ext_below hB, ?_, rfl⟩
    rotate_left
    · rw [if_pos hf]
    · exact VR.tup' rfl fun j v hj => match j, hj with
        | 0, hj => by cases hj; exact ⟨_, rfl, .int⟩
        | 1, hj => by cases hj; exact ⟨_, rfl, .nilIface⟩
  · rw [if_neg hf] at ha
    refine (Go.Proofs.Tryz.strconv_Atoi_range s1 (by omega) (by rw [h1]; exact ha) Mode.err w (err4 hi) Mode.errOk).mono fun en w' ⟨N, he, _, _, hB⟩ => ?_
    refine ⟨ρ, S, .tup [.int .i64 (Lib.atoiSat s1.data.toList), .iface 199 .undef], _, he, ?_, inv_below hi hB, ext_below hB, ?_, rfl⟩
    rotate_left
    · rw [if_neg hf]
      exact ⟨_, rfl⟩
    · exact VR.tup' rfl fun j v hj => match j, hj with
        | 0, hj => by cases hj; exact ⟨_, rfl, .int⟩
        | 1, hj => by cases hj; exact ⟨_, rfl, .iface .undef⟩
theorem numF_bad (s : Tx) (h : bodyF s = [] ∨ (bodyF s).all dig = false ∨ ((bodyF s).head? = some 48 ∧ s ≠ [48])) : numF s = (0, 3) := by rw [numF, if_pos h]
theorem numF_good (s : Tx) (h : ¬ (bodyF s = [] ∨ (bodyF s).all dig = false ∨ ((bodyF s).head? = some 48 ∧ s ≠ [48]))) : numF s = if fitF s = true then (valF s, 0) else (0, 4) := by
  rw [numF, if_neg h]
  unfold fitF valF
  by_cases h1 : s.head? = some 45
  · simp only [if_pos h1, decide_eq_true_eq]
  · simp only [if_neg h1, decide_eq_true_eq]
theorem number_A (s : Tx) (hl : s.length ≤ 1000000) (S : Store) : CallA Tryz.prog 62 [.str s] S fun r S' => r = .tup [.int .i64 (numF s).1, .int .i64 (numF s).2] ∧ S' = S := by
  refine CallA.keep Tryz.func62 c9062 (Nat.le_of_ble_eq_true rfl) fun σ hσ => ?_
  have hb := body_len s
  simp (disch := first | omega | (simp only [lenT]; omega)) only [a9062, evSt, ↓evPre, ↓evPreW, evPost, evPostW, evR, evU, seval]
  refine (trim_A s).then ?_
  by_cases h0 : bodyF s = []
  · rw [numF_bad s (.inl h0)]
    simp (disch := first | omega | (simp only [lenT]; omega)) only [h0, evSt, ↓evPre, ↓evPreW, evPost, evPostW, evR, evU, seval]
  simp (disch := first | omega | (simp only [lenT]; omega)) only [h0, decide_false, evSt, ↓evPre, ↓evPreW, evPost, evPostW, evR, evU, seval]
  refine (every_A (bodyF s) (by omega) S).then ?_
  cases hd : (bodyF s).all dig
  · rw [numF_bad s (.inr (.inl hd))]
    simp (disch := first | omega | (simp only [lenT]; omega)) only [Bool.not_false, evSt, ↓evPre, ↓evPreW, evPost, evPostW, evR, evU, seval]
  obtain ⟨c, d, hc⟩ : ∃ c d, bodyF s = c :: d := by
    cases hb : bodyF s with
    | nil => exact absurd hb h0
    | cons c d => exact ⟨c, d, rfl⟩
  have hc0 : (bodyF s)[0]? = some c := by rw [hc]; rfl
  have h48 : (48 : UInt8).toNat = 48 := rfl
  have hci : ((c.toNat : Nat) : Int) = 48 ↔ c = 48 := ⟨fun e => by
    have : c.toNat = 48 := by omega
    rw [← UInt8.ofNat_toNat (x := c), this]
    rfl, fun e => by rw [e]; rfl⟩
  have hch : (bodyF s).head? = some 48 ↔ c = 48 := by rw [hc]; simp
  have hpos : 0 < (bodyF s).length := by rw [hc]; simp
  by_cases hz : c = 48
  · by_cases hs : s = [48]
    · have hg := numF_good s (by rintro (h | h | ⟨_, h⟩); exact h0 h; rw [hd] at h; cases h; exact h hs)
      rw [hg]
      have e1 := decide_eq_true (hci.2 hz)
      have e2 := decide_eq_true hs
      simp (disch := first | omega | (simp only [lenT]; omega)) only [hc0, e1, e2, Bool.not_true, Bool.not_false, evSt, ↓evPre, ↓evPreW, evPost, evPostW, evR, evU, seval]
      refine (atoi_A s h0 hd hl (S := S)).mono ?_
      rintro r S2 ⟨hr, hS2⟩
      rw [hS2]
      clear hS2 S2
      by_cases hf : fitF s = true
      · rw [if_pos hf] at hr ⊢
        rw [hr]
        simp (disch := first | omega | (simp only [lenT]; omega)) only [evSt, ↓evPre, ↓evPreW, evPost, evPostW, evR, evU, seval]
      · rw [if_neg hf] at hr ⊢
        obtain ⟨x, rfl⟩ := hr
        simp (disch := first | omega | (simp only [lenT]; omega)) only [evSt, ↓evPre, ↓evPreW, evPost, evPostW, evR, evU, seval]
    · rw [numF_bad s (.inr (.inr ⟨hch.2 hz, hs⟩))]
      have e1 := decide_eq_true (hci.2 hz)
      have e2 := decide_eq_false hs
      simp (disch := first | omega | (simp only [lenT]; omega)) only [hc0, e1, e2, Bool.not_true, Bool.not_false, evSt, ↓evPre, ↓evPreW, evPost, evPostW, evR, evU, seval]
  · have hg := numF_good s (by rintro (h | h | ⟨h, _⟩); exact h0 h; rw [hd] at h; cases h; exact hz (hch.1 h))
    rw [hg]
    have e1 := decide_eq_false (fun e => hz (hci.1 e))
    simp (disch := first | omega | (simp only [lenT]; omega)) only [hc0, e1, Bool.not_true, Bool.not_false, evSt, ↓evPre, ↓evPreW, evPost, evPostW, evR, evU, seval]
    refine (atoi_A s h0 hd hl (S := S)).mono ?_
    rintro r S2 ⟨hr, hS2⟩
    rw [hS2]
    clear hS2 S2
    by_cases hf : fitF s = true
    · rw [if_pos hf] at hr ⊢
      rw [hr]
      simp (disch := first | omega | (simp only [lenT]; omega)) only [evSt, ↓evPre, ↓evPreW, evPost, evPostW, evR, evU, seval]
    · rw [if_neg hf] at hr ⊢
      obtain ⟨x, rfl⟩ := hr
      simp (disch := first | omega | (simp only [lenT]; omega)) only [evSt, ↓evPre, ↓evPreW, evPost, evPostW, evR, evU, seval]
end Go.Proofs.YtlnpfnoemhjheaaGreatDoor
