/- The stable sort of 'slices', at rows of two cells: what its parts do to the rows. -/
import Derived.Test.YtoidchljifelgaaBid2
namespace Go.Proofs.Ytoidchljifelgaa
open Go Go.AL
set_option linter.unusedSimpArgs false

/-- Two places changed for each other. -/
def sw {α : Type} (l : List α) (i j : Nat) : List α :=
  match l[i]?, l[j]? with
  | some x, some y => (l.set i y).set j x
  | _, _ => l

theorem sw_length {α : Type} (l : List α) (i j : Nat) : (sw l i j).length = l.length := by
  unfold sw; split <;> simp

def swapN {α : Type} (l : List α) (a b : Nat) : Nat → List α
  | 0 => l
  | n + 1 => sw (swapN l a b n) (a + n) (b + n)

theorem swapN_length {α : Type} (l : List α) (a b : Nat) : ∀ n, (swapN l a b n).length = l.length
  | 0 => rfl
  | n + 1 => by rw [swapN, sw_length, swapN_length l a b n]

theorem sw_mem {α : Type} {l : List α} {i j : Nat} {x : α} (h : x ∈ sw l i j) : x ∈ l := by
  unfold sw at h
  split at h
  · rename_i y z hy hz
    rcases List.mem_or_eq_of_mem_set h with h1 | rfl
    · rcases List.mem_or_eq_of_mem_set h1 with h2 | rfl
      · exact h2
      · exact List.mem_of_getElem? hz
    · exact List.mem_of_getElem? hy
  · exact h

theorem swapN_mem {α : Type} {l : List α} {a b : Nat} {x : α} : ∀ {n : Nat}, x ∈ swapN l a b n → x ∈ l
  | 0, h => h
  | _ + 1, h => swapN_mem (sw_mem h)

/-- Rows of two cells, each of which can be stored. -/
def W2 (rows : List (List V)) : Prop := ∀ r ∈ rows, r.length = 2 ∧ r.all V.cellOk = true

def rset (S : Store) (id ver : Nat) (rows : List (List V)) : Store := S.set id ⟨ver, some (.arr 40 2 rows)⟩

theorem rset_obj {S : Store} {id ver : Nat} {rows : List (List V)} (h : id < S.length) : (rset S id ver rows).obj? id ver = some (40, 2, rows) := by
  simp [rset, Store.obj?, h]
theorem rset_same {S : Store} {id ver : Nat} {rows : List (List V)} (h : S[id]? = some ⟨ver, some (.arr 40 2 rows)⟩) : rset S id ver rows = S := by
  obtain ⟨hlt, he⟩ := List.getElem?_eq_some_iff.1 h
  rw [rset, ← he, List.set_getElem_self]
theorem rset_set {S : Store} {id ver : Nat} {rows rows' : List (List V)} : (rset S id ver rows).set id ⟨ver, some (.arr 40 2 rows')⟩ = rset S id ver rows' := by
  simp [rset]
theorem rset_length {S : Store} {id ver : Nat} {rows : List (List V)} : (rset S id ver rows).length = S.length := by simp [rset]

theorem agg_cells {r : List V} (h : r.all V.cellOk = true) : (V.agg r).cells? = some r := by simp [V.cells?, h]
theorem splice_row {r q : List V} (hr : r.length = 2) (hq : q.length = 2) : splice r 0 q = q := by
  simp [splice, hr, hq]

theorem swapRange_A (rows : List (List V)) (a b n : Nat) (S : Store) (id ver : Nat) (cv : V) (hid : id < S.length) (hw : W2 rows) (hab : a + n ≤ b) (hbn : b + n ≤ rows.length) (hl : rows.length ≤ 1099511627776) :
    CallA Try.prog 31 [.msl id ver 0 rows.length, .int .i64 a, .int .i64 b, .int .i64 n, cv] (rset S id ver rows) fun r S' => r = .tup [] ∧ S' = rset S id ver (swapN rows a b n) := by
  refine CallA.keep Try.func31 c31 (Nat.le_of_ble_eq_true rfl) fun σ hσ => ?_
  simp only [a31, cast_zero, cast_one, ↓w_skip, ↓w_reg, ↓w_seq, ↓w_cond, ↓w_block, ↓w_loop, ↓w_exit, ↓w_ret, ↓r_nil, ↓r_plain, ↓r_guard, g_bool, if_cases, g_skip, ↓w_oreg, ↓q_nil, ↓q_plain, ↓q_guard, ↓io_loud, ↓io_quiet, ↓io_stable, sb_mv, sb_pick, sb_bin, sb_eqb, sb_not, sb_neg, sb_lenS, sb_idxS, sb_fld1, sb_fldn, sb_conv, sb_ext, sb_build, sb_bsl, sb_boxI, sb_mkfn, sb_slS, sb_minmax, sb_mkIf, sb_tas, sb_lenA, sb_idxA, sb_faddr, sb_ld1, sb_ldn, sb_slA, sb_nilChk, sb_isNil, sb_b2s, sb_call, ↓sd_p, ↓sd_call, ↓sd_callv, callD_func, pd_some, pd_none, ↓s_p, ↓s_call, ↓s_callv, callK_func, ↓s_boxO, boxK_some, ↓s_newO, ↓s_bslO, bslK_some, ↓s_st, ↓s_nilD, nd_sl, nd_slc, nd_nil, st_ptr, stO_some, stR_some, ↓s_app, src_nil, src_sl, src_msl, srcO_some, app_nil, app_msl, appO_some, ↓s_mksl, mk_int, pk_some, pk_none, c_bool, ↓t_normal, ↓t_exit, ↓t_ret, ↓b_normal, ↓b_exit, ↓b_ret, ↓k_ret, ↓k_normal, ↓k_exit, resV_one, resV_nil, resV_two, ev_t, ev_c, evs_nil, evs_cons, get_cons, get_nil, put_some, put_none, argEnv_nil, argEnv_cons, sub_nil, sub_cons, o_mv, o_pick, pick_true, pick_false, pick_bb, o_bin, bi_add, bi_sub, bi_mul, bi_quo, bi_rem, bi_and, bi_or, bi_xor, bi_andNot, bi_shr, bi_shl, sh_r1, bi_eql, bi_neq, bi_lss, bi_leq, bi_gtr, bi_geq, bs_add, bs_eql, bs_neq, bs_lss, bs_gtr, bs_leq, bs_geq, o_eqb, eqb_t, eqb_f, o_not, o_neg, o_lenS, un_not, un_neg, un_lenS, o_lenA, len_nil, len_sl, len_msl, lenO_some, o_idxS, idxS_nat, idxS_int, o_idxA, idxA_nat, idxA_int, idxA_msl, idxO_some, o_faddr, faddr_c, faddr_p, faddrO_some, o_ld1, ld1_c, ld1_p, ld1O_some, o_ldn, ldn_c, ldn_p, ldnO_some, ldnR_some, o_fld1, fld_agg, o_fldn, fldn_agg, o_conv, conv_int, o_ext, ext_tup, o_build, fill_nil, fill_cons, fillK_some, splice_eq, o_boxI, box_some, o_mkfn, o_minmax, mm_min, mm_max, o_slS, bd_none, bd_some, ↓io_int, slS_str, cutS_some, o_slA, slA_msl, cutO_some, slA_sl, cutA_some, o_bsl, bsl_some, fillR_nil, fillR_cons, fillRK_some, zrows_zero, zrows_succ, o_nilChk, chk_c, chk_p, chk_f, chk_i, o_mkIf, o_tas, tas_iface, tas_iface', tas_nil, o_isNil, nil_0, nil_0c, nil_1, nil_1c, nil_1p, nil_0m, nil_2, nil_2c, nil_3, nil_3c, o_b2s, b2s_nil, bytesV_rows, b2s_sl, b2s_msl, b2sO_some, cells_int, cells_bool, cells_str, cells_sl, cells_nilSl, cells_nilPtr, cells_nilIface, cells_iface, cells_msl, cells_ptr, cells_cptr, cells_func, cells_agg, ok_int, ok_bool, ok_str, ok_sl, ok_nilSl, ok_msl, ok_ptr, ok_cptr, ok_nilPtr, ok_nilIface, ok_iface, imm_int, imm_bool, imm_str, imm_sl, imm_nilSl, imm_nilPtr, imm_nilIface, imm_cptr, imm_iface, imm_agg, imm_tup, imm_func, allImm_nil, allImm_cons, Int.ofNat_eq_natCast, ↓reduceIte, reduceCtorEq, Nat.reduceEqDiff, Option.some.injEq, List.map_cons, List.map_nil, List.all_cons, List.all_nil, List.drop_zero, List.drop_succ_cons, List.take_succ_cons, List.take_zero, List.getElem?_cons_zero, List.getElem?_cons_succ, List.length_cons, List.length_nil, Option.map_some, Option.map_none, Option.bind_some, Bool.not_true, Bool.not_false, Bool.true_eq_false, Bool.false_eq_true, forall_const, false_implies, true_implies, and_true, true_and, and_self, implies_true, cond_true, cond_false, Nat.reduceAdd, Nat.reduceSub, Nat.reduceMul, Nat.reduceLT, Nat.reduceLeDiff, Nat.zero_add, Int.natCast_nonneg, Int.toNat_natCast, Bool.and_self, Bool.and_true, Bool.true_and, List.nil_append, List.cons_append, List.append_nil, decide_eq_true_eq, decide_eq_false_iff_not, List.length_map, List.getElem?_map, V.int.injEq, V.bool.injEq, V.str.injEq, Bool.decide_eq_true, Bool.not_eq_true, Int.not_lt, Int.not_le, Int.reduceToNat, Int.toNat_zero, Int.toNat_one, Int.reduceAdd, Int.reduceSub, Int.reduceNeg, Int.reduceMul, Int.reduceLT, Int.reduceLE, Int.reduceEq, Int.zero_add, Int.add_zero, ← List.map_take, ← List.map_drop, Nat.sub_zero, true_imp_iff, not_true_eq_false, not_false_eq_true, decide_true, decide_false, Bool.not_eq_true', Bool.not_eq_false', Bool.not_eq_false, Nat.add_zero, Int.lt_irrefl]
  refine loopA (ι := Nat) (fun k => [(0, .msl id ver 0 rows.length), (1, .int .i64 a), (2, .int .i64 b), (3, .int .i64 n), (10, .int .i64 k)]) (fun k => rset S id ver (swapN rows a b k)) (fun k => k ≤ n) (fun k => n - k) 0 (Nat.zero_le _) ?_ rfl ?_
  · simp only [cast_zero, cast_one, ↓w_skip, ↓w_reg, ↓w_seq, ↓w_cond, ↓w_block, ↓w_loop, ↓w_exit, ↓w_ret, ↓r_nil, ↓r_plain, ↓r_guard, g_bool, if_cases, g_skip, ↓w_oreg, ↓q_nil, ↓q_plain, ↓q_guard, ↓io_loud, ↓io_quiet, ↓io_stable, sb_mv, sb_pick, sb_bin, sb_eqb, sb_not, sb_neg, sb_lenS, sb_idxS, sb_fld1, sb_fldn, sb_conv, sb_ext, sb_build, sb_bsl, sb_boxI, sb_mkfn, sb_slS, sb_minmax, sb_mkIf, sb_tas, sb_lenA, sb_idxA, sb_faddr, sb_ld1, sb_ldn, sb_slA, sb_nilChk, sb_isNil, sb_b2s, sb_call, ↓sd_p, ↓sd_call, ↓sd_callv, callD_func, pd_some, pd_none, ↓s_p, ↓s_call, ↓s_callv, callK_func, ↓s_boxO, boxK_some, ↓s_newO, ↓s_bslO, bslK_some, ↓s_st, ↓s_nilD, nd_sl, nd_slc, nd_nil, st_ptr, stO_some, stR_some, ↓s_app, src_nil, src_sl, src_msl, srcO_some, app_nil, app_msl, appO_some, ↓s_mksl, mk_int, pk_some, pk_none, c_bool, ↓t_normal, ↓t_exit, ↓t_ret, ↓b_normal, ↓b_exit, ↓b_ret, ↓k_ret, ↓k_normal, ↓k_exit, resV_one, resV_nil, resV_two, ev_t, ev_c, evs_nil, evs_cons, get_cons, get_nil, put_some, put_none, argEnv_nil, argEnv_cons, sub_nil, sub_cons, o_mv, o_pick, pick_true, pick_false, pick_bb, o_bin, bi_add, bi_sub, bi_mul, bi_quo, bi_rem, bi_and, bi_or, bi_xor, bi_andNot, bi_shr, bi_shl, sh_r1, bi_eql, bi_neq, bi_lss, bi_leq, bi_gtr, bi_geq, bs_add, bs_eql, bs_neq, bs_lss, bs_gtr, bs_leq, bs_geq, o_eqb, eqb_t, eqb_f, o_not, o_neg, o_lenS, un_not, un_neg, un_lenS, o_lenA, len_nil, len_sl, len_msl, lenO_some, o_idxS, idxS_nat, idxS_int, o_idxA, idxA_nat, idxA_int, idxA_msl, idxO_some, o_faddr, faddr_c, faddr_p, faddrO_some, o_ld1, ld1_c, ld1_p, ld1O_some, o_ldn, ldn_c, ldn_p, ldnO_some, ldnR_some, o_fld1, fld_agg, o_fldn, fldn_agg, o_conv, conv_int, o_ext, ext_tup, o_build, fill_nil, fill_cons, fillK_some, splice_eq, o_boxI, box_some, o_mkfn, o_minmax, mm_min, mm_max, o_slS, bd_none, bd_some, ↓io_int, slS_str, cutS_some, o_slA, slA_msl, cutO_some, slA_sl, cutA_some, o_bsl, bsl_some, fillR_nil, fillR_cons, fillRK_some, zrows_zero, zrows_succ, o_nilChk, chk_c, chk_p, chk_f, chk_i, o_mkIf, o_tas, tas_iface, tas_iface', tas_nil, o_isNil, nil_0, nil_0c, nil_1, nil_1c, nil_1p, nil_0m, nil_2, nil_2c, nil_3, nil_3c, o_b2s, b2s_nil, bytesV_rows, b2s_sl, b2s_msl, b2sO_some, cells_int, cells_bool, cells_str, cells_sl, cells_nilSl, cells_nilPtr, cells_nilIface, cells_iface, cells_msl, cells_ptr, cells_cptr, cells_func, cells_agg, ok_int, ok_bool, ok_str, ok_sl, ok_nilSl, ok_msl, ok_ptr, ok_cptr, ok_nilPtr, ok_nilIface, ok_iface, imm_int, imm_bool, imm_str, imm_sl, imm_nilSl, imm_nilPtr, imm_nilIface, imm_cptr, imm_iface, imm_agg, imm_tup, imm_func, allImm_nil, allImm_cons, Int.ofNat_eq_natCast, ↓reduceIte, reduceCtorEq, Nat.reduceEqDiff, Option.some.injEq, List.map_cons, List.map_nil, List.all_cons, List.all_nil, List.drop_zero, List.drop_succ_cons, List.take_succ_cons, List.take_zero, List.getElem?_cons_zero, List.getElem?_cons_succ, List.length_cons, List.length_nil, Option.map_some, Option.map_none, Option.bind_some, Bool.not_true, Bool.not_false, Bool.true_eq_false, Bool.false_eq_true, forall_const, false_implies, true_implies, and_true, true_and, and_self, implies_true, cond_true, cond_false, Nat.reduceAdd, Nat.reduceSub, Nat.reduceMul, Nat.reduceLT, Nat.reduceLeDiff, Nat.zero_add, Int.natCast_nonneg, Int.toNat_natCast, Bool.and_self, Bool.and_true, Bool.true_and, List.nil_append, List.cons_append, List.append_nil, decide_eq_true_eq, decide_eq_false_iff_not, List.length_map, List.getElem?_map, V.int.injEq, V.bool.injEq, V.str.injEq, Bool.decide_eq_true, Bool.not_eq_true, Int.not_lt, Int.not_le, Int.reduceToNat, Int.toNat_zero, Int.toNat_one, Int.reduceAdd, Int.reduceSub, Int.reduceNeg, Int.reduceMul, Int.reduceLT, Int.reduceLE, Int.reduceEq, Int.zero_add, Int.add_zero, ← List.map_take, ← List.map_drop, Nat.sub_zero, true_imp_iff, not_true_eq_false, not_false_eq_true, decide_true, decide_false, Bool.not_eq_true', Bool.not_eq_false', Bool.not_eq_false, Nat.add_zero, Int.lt_irrefl]
  · rintro k hk
    by_cases hlt : k < n
    · have hlt' : (k : Int) < n := by omega
      have hlen := swapN_length rows a b k
      have hx : ∃ x, (swapN rows a b k)[a + k]? = some x := ⟨_, List.getElem?_eq_getElem (by omega)⟩
      have hy : ∃ y, (swapN rows a b k)[b + k]? = some y := ⟨_, List.getElem?_eq_getElem (by omega)⟩
      obtain ⟨x, hx⟩ := hx
      obtain ⟨y, hy⟩ := hy
      obtain ⟨x1, x2⟩ := hw x (swapN_mem (List.mem_of_getElem? hx))
      obtain ⟨y1, y2⟩ := hw y (swapN_mem (List.mem_of_getElem? hy))
      have ho : ∀ rows, (rset S id ver rows).obj? id ver = some (40, 2, rows) := fun rows => rset_obj hid
      have ea : ((a : Int) + k).toNat = a + k := by omega
      have eb : ((b : Int) + k).toNat = b + k := by omega
      have tx : x.take 2 = x := List.take_of_length_le (by omega)
      have ty : y.take 2 = y := List.take_of_length_le (by omega)
      have dx : x.drop 2 = [] := List.drop_eq_nil_of_le (by omega)
      have dy : y.drop 2 = [] := List.drop_eq_nil_of_le (by omega)
      have hy' : ((swapN rows a b k).set (a + k) y)[b + k]? = some y := by rw [List.getElem?_set_ne (by omega)]; exact hy
      simp (disch := omega) only [hlt', wrap_i64, ho, ea, eb, hx, hy, hy', x1, y1, tx, ty, dx, dy, idxO_some, ldnR_some, Nat.le_refl, agg_cells x2, agg_cells y2, rset_set, cast_zero, cast_one, ↓w_skip, ↓w_reg, ↓w_seq, ↓w_cond, ↓w_block, ↓w_loop, ↓w_exit, ↓w_ret, ↓r_nil, ↓r_plain, ↓r_guard, g_bool, if_cases, g_skip, ↓w_oreg, ↓q_nil, ↓q_plain, ↓q_guard, ↓io_loud, ↓io_quiet, ↓io_stable, sb_mv, sb_pick, sb_bin, sb_eqb, sb_not, sb_neg, sb_lenS, sb_idxS, sb_fld1, sb_fldn, sb_conv, sb_ext, sb_build, sb_bsl, sb_boxI, sb_mkfn, sb_slS, sb_minmax, sb_mkIf, sb_tas, sb_lenA, sb_idxA, sb_faddr, sb_ld1, sb_ldn, sb_slA, sb_nilChk, sb_isNil, sb_b2s, sb_call, ↓sd_p, ↓sd_call, ↓sd_callv, callD_func, pd_some, pd_none, ↓s_p, ↓s_call, ↓s_callv, callK_func, ↓s_boxO, boxK_some, ↓s_newO, ↓s_bslO, bslK_some, ↓s_st, ↓s_nilD, nd_sl, nd_slc, nd_nil, st_ptr, stO_some, stR_some, ↓s_app, src_nil, src_sl, src_msl, srcO_some, app_nil, app_msl, appO_some, ↓s_mksl, mk_int, pk_some, pk_none, c_bool, ↓t_normal, ↓t_exit, ↓t_ret, ↓b_normal, ↓b_exit, ↓b_ret, ↓k_ret, ↓k_normal, ↓k_exit, resV_one, resV_nil, resV_two, ev_t, ev_c, evs_nil, evs_cons, get_cons, get_nil, put_some, put_none, argEnv_nil, argEnv_cons, sub_nil, sub_cons, o_mv, o_pick, pick_true, pick_false, pick_bb, o_bin, bi_add, bi_sub, bi_mul, bi_quo, bi_rem, bi_and, bi_or, bi_xor, bi_andNot, bi_shr, bi_shl, sh_r1, bi_eql, bi_neq, bi_lss, bi_leq, bi_gtr, bi_geq, bs_add, bs_eql, bs_neq, bs_lss, bs_gtr, bs_leq, bs_geq, o_eqb, eqb_t, eqb_f, o_not, o_neg, o_lenS, un_not, un_neg, un_lenS, o_lenA, len_nil, len_sl, len_msl, lenO_some, o_idxS, idxS_nat, idxS_int, o_idxA, idxA_nat, idxA_int, idxA_msl, idxO_some, o_faddr, faddr_c, faddr_p, faddrO_some, o_ld1, ld1_c, ld1_p, ld1O_some, o_ldn, ldn_c, ldn_p, ldnO_some, ldnR_some, o_fld1, fld_agg, o_fldn, fldn_agg, o_conv, conv_int, o_ext, ext_tup, o_build, fill_nil, fill_cons, fillK_some, splice_eq, o_boxI, box_some, o_mkfn, o_minmax, mm_min, mm_max, o_slS, bd_none, bd_some, ↓io_int, slS_str, cutS_some, o_slA, slA_msl, cutO_some, slA_sl, cutA_some, o_bsl, bsl_some, fillR_nil, fillR_cons, fillRK_some, zrows_zero, zrows_succ, o_nilChk, chk_c, chk_p, chk_f, chk_i, o_mkIf, o_tas, tas_iface, tas_iface', tas_nil, o_isNil, nil_0, nil_0c, nil_1, nil_1c, nil_1p, nil_0m, nil_2, nil_2c, nil_3, nil_3c, o_b2s, b2s_nil, bytesV_rows, b2s_sl, b2s_msl, b2sO_some, cells_int, cells_bool, cells_str, cells_sl, cells_nilSl, cells_nilPtr, cells_nilIface, cells_iface, cells_msl, cells_ptr, cells_cptr, cells_func, cells_agg, ok_int, ok_bool, ok_str, ok_sl, ok_nilSl, ok_msl, ok_ptr, ok_cptr, ok_nilPtr, ok_nilIface, ok_iface, imm_int, imm_bool, imm_str, imm_sl, imm_nilSl, imm_nilPtr, imm_nilIface, imm_cptr, imm_iface, imm_agg, imm_tup, imm_func, allImm_nil, allImm_cons, Int.ofNat_eq_natCast, ↓reduceIte, reduceCtorEq, Nat.reduceEqDiff, Option.some.injEq, List.map_cons, List.map_nil, List.all_cons, List.all_nil, List.drop_zero, List.drop_succ_cons, List.take_succ_cons, List.take_zero, List.getElem?_cons_zero, List.getElem?_cons_succ, List.length_cons, List.length_nil, Option.map_some, Option.map_none, Option.bind_some, Bool.not_true, Bool.not_false, Bool.true_eq_false, Bool.false_eq_true, forall_const, false_implies, true_implies, and_true, true_and, and_self, implies_true, cond_true, cond_false, Nat.reduceAdd, Nat.reduceSub, Nat.reduceMul, Nat.reduceLT, Nat.reduceLeDiff, Nat.zero_add, Int.natCast_nonneg, Int.toNat_natCast, Bool.and_self, Bool.and_true, Bool.true_and, List.nil_append, List.cons_append, List.append_nil, decide_eq_true_eq, decide_eq_false_iff_not, List.length_map, List.getElem?_map, V.int.injEq, V.bool.injEq, V.str.injEq, Bool.decide_eq_true, Bool.not_eq_true, Int.not_lt, Int.not_le, Int.reduceToNat, Int.toNat_zero, Int.toNat_one, Int.reduceAdd, Int.reduceSub, Int.reduceNeg, Int.reduceMul, Int.reduceLT, Int.reduceLE, Int.reduceEq, Int.zero_add, Int.add_zero, ← List.map_take, ← List.map_drop, Nat.sub_zero, true_imp_iff, not_true_eq_false, not_false_eq_true, decide_true, decide_false, Bool.not_eq_true', Bool.not_eq_false', Bool.not_eq_false, Nat.add_zero, Int.lt_irrefl]
      exact ⟨k + 1, by omega, by omega, by omega, by simp only [swapN, sw, hx, hy]⟩
    · have hlt' : ¬ (k : Int) < n := by omega
      have : k = n := by omega
      subst this
      simp (disch := omega) only [hlt', cast_zero, cast_one, ↓w_skip, ↓w_reg, ↓w_seq, ↓w_cond, ↓w_block, ↓w_loop, ↓w_exit, ↓w_ret, ↓r_nil, ↓r_plain, ↓r_guard, g_bool, if_cases, g_skip, ↓w_oreg, ↓q_nil, ↓q_plain, ↓q_guard, ↓io_loud, ↓io_quiet, ↓io_stable, sb_mv, sb_pick, sb_bin, sb_eqb, sb_not, sb_neg, sb_lenS, sb_idxS, sb_fld1, sb_fldn, sb_conv, sb_ext, sb_build, sb_bsl, sb_boxI, sb_mkfn, sb_slS, sb_minmax, sb_mkIf, sb_tas, sb_lenA, sb_idxA, sb_faddr, sb_ld1, sb_ldn, sb_slA, sb_nilChk, sb_isNil, sb_b2s, sb_call, ↓sd_p, ↓sd_call, ↓sd_callv, callD_func, pd_some, pd_none, ↓s_p, ↓s_call, ↓s_callv, callK_func, ↓s_boxO, boxK_some, ↓s_newO, ↓s_bslO, bslK_some, ↓s_st, ↓s_nilD, nd_sl, nd_slc, nd_nil, st_ptr, stO_some, stR_some, ↓s_app, src_nil, src_sl, src_msl, srcO_some, app_nil, app_msl, appO_some, ↓s_mksl, mk_int, pk_some, pk_none, c_bool, ↓t_normal, ↓t_exit, ↓t_ret, ↓b_normal, ↓b_exit, ↓b_ret, ↓k_ret, ↓k_normal, ↓k_exit, resV_one, resV_nil, resV_two, ev_t, ev_c, evs_nil, evs_cons, get_cons, get_nil, put_some, put_none, argEnv_nil, argEnv_cons, sub_nil, sub_cons, o_mv, o_pick, pick_true, pick_false, pick_bb, o_bin, bi_add, bi_sub, bi_mul, bi_quo, bi_rem, bi_and, bi_or, bi_xor, bi_andNot, bi_shr, bi_shl, sh_r1, bi_eql, bi_neq, bi_lss, bi_leq, bi_gtr, bi_geq, bs_add, bs_eql, bs_neq, bs_lss, bs_gtr, bs_leq, bs_geq, o_eqb, eqb_t, eqb_f, o_not, o_neg, o_lenS, un_not, un_neg, un_lenS, o_lenA, len_nil, len_sl, len_msl, lenO_some, o_idxS, idxS_nat, idxS_int, o_idxA, idxA_nat, idxA_int, idxA_msl, idxO_some, o_faddr, faddr_c, faddr_p, faddrO_some, o_ld1, ld1_c, ld1_p, ld1O_some, o_ldn, ldn_c, ldn_p, ldnO_some, ldnR_some, o_fld1, fld_agg, o_fldn, fldn_agg, o_conv, conv_int, o_ext, ext_tup, o_build, fill_nil, fill_cons, fillK_some, splice_eq, o_boxI, box_some, o_mkfn, o_minmax, mm_min, mm_max, o_slS, bd_none, bd_some, ↓io_int, slS_str, cutS_some, o_slA, slA_msl, cutO_some, slA_sl, cutA_some, o_bsl, bsl_some, fillR_nil, fillR_cons, fillRK_some, zrows_zero, zrows_succ, o_nilChk, chk_c, chk_p, chk_f, chk_i, o_mkIf, o_tas, tas_iface, tas_iface', tas_nil, o_isNil, nil_0, nil_0c, nil_1, nil_1c, nil_1p, nil_0m, nil_2, nil_2c, nil_3, nil_3c, o_b2s, b2s_nil, bytesV_rows, b2s_sl, b2s_msl, b2sO_some, cells_int, cells_bool, cells_str, cells_sl, cells_nilSl, cells_nilPtr, cells_nilIface, cells_iface, cells_msl, cells_ptr, cells_cptr, cells_func, cells_agg, ok_int, ok_bool, ok_str, ok_sl, ok_nilSl, ok_msl, ok_ptr, ok_cptr, ok_nilPtr, ok_nilIface, ok_iface, imm_int, imm_bool, imm_str, imm_sl, imm_nilSl, imm_nilPtr, imm_nilIface, imm_cptr, imm_iface, imm_agg, imm_tup, imm_func, allImm_nil, allImm_cons, Int.ofNat_eq_natCast, ↓reduceIte, reduceCtorEq, Nat.reduceEqDiff, Option.some.injEq, List.map_cons, List.map_nil, List.all_cons, List.all_nil, List.drop_zero, List.drop_succ_cons, List.take_succ_cons, List.take_zero, List.getElem?_cons_zero, List.getElem?_cons_succ, List.length_cons, List.length_nil, Option.map_some, Option.map_none, Option.bind_some, Bool.not_true, Bool.not_false, Bool.true_eq_false, Bool.false_eq_true, forall_const, false_implies, true_implies, and_true, true_and, and_self, implies_true, cond_true, cond_false, Nat.reduceAdd, Nat.reduceSub, Nat.reduceMul, Nat.reduceLT, Nat.reduceLeDiff, Nat.zero_add, Int.natCast_nonneg, Int.toNat_natCast, Bool.and_self, Bool.and_true, Bool.true_and, List.nil_append, List.cons_append, List.append_nil, decide_eq_true_eq, decide_eq_false_iff_not, List.length_map, List.getElem?_map, V.int.injEq, V.bool.injEq, V.str.injEq, Bool.decide_eq_true, Bool.not_eq_true, Int.not_lt, Int.not_le, Int.reduceToNat, Int.toNat_zero, Int.toNat_one, Int.reduceAdd, Int.reduceSub, Int.reduceNeg, Int.reduceMul, Int.reduceLT, Int.reduceLE, Int.reduceEq, Int.zero_add, Int.add_zero, ← List.map_take, ← List.map_drop, Nat.sub_zero, true_imp_iff, not_true_eq_false, not_false_eq_true, decide_true, decide_false, Bool.not_eq_true', Bool.not_eq_false', Bool.not_eq_false, Nat.add_zero, Int.lt_irrefl]

/-- Blocks of the same length change places. -/
theorem swapN_blocks {α : Type} (P A M B Q : List α) (h : A.length = B.length) : swapN (P ++ A ++ M ++ B ++ Q) P.length (P.length + A.length + M.length) A.length = P ++ B ++ M ++ A ++ Q := by
  have key : ∀ k, k ≤ A.length → swapN (P ++ A ++ M ++ B ++ Q) P.length (P.length + A.length + M.length) k = P ++ (B.take k ++ A.drop k) ++ M ++ (A.take k ++ B.drop k) ++ Q := by
    intro k
    induction k with
    | zero => intro _; simp [swapN]
    | succ k ih =>
      intro hk
      rw [swapN, ih (by omega)]
      have ha : A[k]? = some A[k] := List.getElem?_eq_getElem (by omega)
      have hb : B[k]? = some B[k] := List.getElem?_eq_getElem (by omega)
      have e1 : A.drop k = A[k] :: A.drop (k + 1) := drop_get ha
      have e2 : B.drop k = B[k] :: B.drop (k + 1) := drop_get hb
      have t1 : A.take (k + 1) = A.take k ++ [A[k]] := by rw [List.take_add_one, ha]; rfl
      have t2 : B.take (k + 1) = B.take k ++ [B[k]] := by rw [List.take_add_one, hb]; rfl
      have l1 : (A.take k).length = k := by simp; omega
      have l2 : (B.take k).length = k := by simp; omega
      have l3 : (A.drop (k + 1)).length = A.length - (k + 1) := by simp
      rw [e1, e2, t1, t2]
      -- both places, written out
      have f1 : P ++ (B.take k ++ A[k] :: A.drop (k + 1)) ++ M ++ (A.take k ++ B[k] :: B.drop (k + 1)) ++ Q = (P ++ B.take k) ++ A[k] :: ((A.drop (k + 1) ++ M ++ A.take k) ++ B[k] :: (B.drop (k + 1) ++ Q)) := by simp only [List.append_assoc, List.cons_append]
      have p1 : (P ++ B.take k).length = P.length + k := by simp; omega
      have p2 : (A.drop (k + 1) ++ M ++ A.take k).length = A.length - (k + 1) + M.length + k := by simp; omega
      rw [f1]
      have g1 : ((P ++ B.take k) ++ A[k] :: ((A.drop (k + 1) ++ M ++ A.take k) ++ B[k] :: (B.drop (k + 1) ++ Q)))[P.length + k]? = some A[k] := by
        rw [List.getElem?_append_right (by omega), p1]; simp
      have g2 : ((P ++ B.take k) ++ A[k] :: ((A.drop (k + 1) ++ M ++ A.take k) ++ B[k] :: (B.drop (k + 1) ++ Q)))[P.length + A.length + M.length + k]? = some B[k] := by
        rw [List.getElem?_append_right (by omega), p1, show P.length + A.length + M.length + k - (P.length + k) = (A.length - (k + 1) + M.length + k) + 1 by omega, List.getElem?_cons_succ, List.getElem?_append_right (by omega), p2]; simp
      rw [sw, g1, g2]
      simp only
      rw [List.set_append_right _ _ (by omega), p1, Nat.sub_self, List.set_cons_zero, List.set_append_right _ _ (by omega), p1, show P.length + A.length + M.length + k - (P.length + k) = (A.length - (k + 1) + M.length + k) + 1 by omega, List.set_cons_succ,
        List.set_append_right _ _ (by omega), p2, Nat.sub_self, List.set_cons_zero]
      simp only [List.append_assoc, List.cons_append, List.nil_append]
  have := key A.length (Nat.le_refl _)
  rw [this, List.drop_length, List.take_length, h, List.take_length, List.drop_length]
  simp
end Go.Proofs.Ytoidchljifelgaa
