/- BY VALUE, chapter 26: awake. -/
import Derived.Test.YtnfmilnlekmjgaaW3
import Derived.Test.YtnfmilnlekmjgaaR9
import Derived.Test.YtnfmilnlekmjgaaG8
import Derived.Test.YtnfmilnlekmjgaaG1
set_option linter.unusedSimpArgs false
set_option linter.unusedVariables false
namespace Go.Bv
attribute [local congr] ite_congr congr_bindOps congr_bindC congr_andThen congr_orNone congr_onBool congr_onEff congr_headC
set_option maxRecDepth 100000
set_option maxHeartbeats 40000000
def dig : AV := .agg [.str (bs [82]), .sl [[.str (bs [78]), .int .i64 2, .int .i64 1, .int .i64 0]]]
def fdN : Fd := ⟨bs [78], ⟨2, 1, 0⟩⟩
theorem enc7 : run T SN 82 [.agg [.int .i64 2, .int .i64 1, .int .i64 0], .agg [.int .i64 7, .str (bs [])]] = some (.tup [.str (bs [247]), .int .i64 0]) :=
  run_of (n := 12) (by kernel_rfl)
theorem dig_short : Short (bs [82]) [fdN] := ⟨by decide, by decide, by
  intro f hf
  simp only [List.mem_singleton] at hf
  subst hf
  decide⟩
theorem dig_right : (checkFormat (bs [82]) [fdN]).2 = 0 := by kernel_rfl
theorem rec7 : VSpec Go.Proofs.Try.prog 23 [dig, .sl [[.int .i64 7, .str (bs [])]]] (.tup [.str (bs [247]), .int .i64 0, .int .i64 0]) :=
  rec1 (bs [82]) fdN ⟨7, bs []⟩ (bs [247]) dig_short dig_right enc7 (by decide)
open Classical in
/-- RecordOf, told where it is asked: at the one format and value of awake. -/
noncomputable def S23 : RT := fun f xs => if f = 23 ∧ xs = [dig, .sl [[.int .i64 7, .str (bs [])]]] then some (.tup [.str (bs [247]), .int .i64 0, .int .i64 0]) else none
theorem S23_sound : VSound Go.Proofs.Try.prog S23 := by
  intro f xs r h
  unfold S23 at h
  split at h
  · rename_i hh
    obtain ⟨rfl, rfl⟩ := hh
    cases h
    exact rec7
  · cases h
theorem run23 : run T S23 23 [dig, .sl [[.int .i64 7, .str (bs [])]]] = some (.tup [.str (bs [247]), .int .i64 0, .int .i64 0]) :=
  run_ext rfl (by unfold S23; rw [if_pos ⟨rfl, rfl⟩])
theorem run72 : run T S23 72 [] = some dig := by
  (refine run_fn T72 ⟨rfl, by decide⟩ ?_; rw [start72])
  simp (config := {decide := true, contextual := true, maxSteps := 3000000}) only [F72, dig, List.replicate, ↓bindC_seq, ↓bindC_reg, ↓bindOps_plain, ↓bindOps_gt, ↓bindOps_gf, ↓bindOps_nil, onBool_bool, onEff_some, effT_bool, effF_bool, effT_ite, effF_ite, guard_and, ite_nest, ite_and, ite_or, Bool.not_not, Bool.not_false, Bool.not_true, nw_mv, nw_pick, nw_box, nw_new, nw_bld, nw_lit, nw_ld, nw_fa, nw_ia, nw_ix, nw_subs, nw_sub, nw_mk, nw_bin, nw_beq, nw_eqs, nw_un, nw_cvi, nw_cvs, nw_cvsb, nw_cvbs, nw_lens, nw_len, nw_cpy, nw_mnx, nw_ext, nw_call, nw_nck, ↓act_mv, ↓act_pick, ↓act_bin, ↓act_un, ↓act_lens, pickA_bool, valA_some, lensA_str, bin_int, bin_str, un_not, un_neg, andThen_val, ↓get_t, ↓get_c, ↓lgs, ↓lgz, put_mk, lss, lsz, Bool.false_eq_true, reduceCtorEq, ↓reduceIte, decide_true, decide_false, ite_val, ite_bool, ite_int, ↓roundK_normal, ↓roundK_exit, ↓roundK_ret, ↓seqK_normal, ↓seqK_exit, ↓seqK_ret, ↓bindC_cond, ↓bindC_skip, ↓bindC_exit, ↓bindC_ret, ↓finK_ret, ↓finK_normal, ↓bindC_blk, ↓blkK_normal, ↓blkK_exit, ↓blkK_ret, ↓bindC_loop, ↓bindOps_w, orNone_some, andThen_mk, splice, results, resT, resTs, AV.key, Bool.and_true, Bool.true_and, and_true, true_and, and_self, List.flatMap_nil, List.flatMap_cons, List.append_nil, List.nil_append, List.cons_append, List.map_cons, List.map_nil, List.all_cons, List.all_nil, List.length_cons, List.length_nil, Nat.reduceAdd, Nat.reduceLT, Nat.reduceLeDiff, Nat.reduceEqDiff, Nat.reduceSub, Nat.zero_add, Nat.add_zero, List.drop_succ_cons, List.drop_zero, List.take_succ_cons, List.take_zero, ↓lqz, ↓lqs, lmz, lms, osz, oss, ↓ok_mk, okO_some, ↓gen_mk, genO_some, setObj_mk, put_some, put_none, frz_nil, frz_cons, frz_row, ↓objs_mk, ref_row, ref_box, kil_nil, kil_cons, kil_obj, v1_own, v1O_row, v1_int, v1_bool, v1_str, v1_nil, v1_sl, vs_nil, vs_cons, vsC_some, cells_agg, cells_int, cells_bool', cells_str', cells_nil, cells_sl, cells_own, arg_agg, argG_some, arg_int, arg_bool, arg_str, arg_nil, arg_sl, arg_own, arg1_sl, norm_int, norm_bool, norm_str, norm_nil, norm_sl, args_nil, args_cons, elems_nil, elems_sl, elems_own, elO_row, ↓act_cvsb, cvsbA_str, ↓act_len, lenA_some, ↓act_ia, iaA_sl, iaA_own, iaO_row, ↓act_ld1, ld1_ptr, ldB_box, ldO_some, ld1_el, ld1_rp, ldR_row, ldP_int, ldP_bool, ldP_str, ldP_nil, ldP_sl, ↓act_ldn, ldV_some, ldn_ptr, ldnB_box, ldn_el, ↓act_fa, faA_ptr, faB_box, faA_el, ↓act_ext, extA_tup, extO_int, extO_bool, extO_str, extO_sl, extO_agg, ↓act_call, callA_some, callR_fr, callR_int, callR_bool, callR_str, callR_sl, callR_agg, callR_tup, ↓act_box, boxA_some, ↓act_new, ↓act_cpy, cpyA_some, ↓act_bld, bldA_some, fill_nil, fill_cons, fillC_some, ksA_some, ↓act_lit, litA_some, lits_nil, lits_cons, litsC_some, ↓ev_st, st_ptr, stB_box, parts_agg, parts_int, parts_bool, parts_str, parts_nil, parts_sl, parts_own, ok_int, ok_bool, ok_str, ok_nil, ok_sl, ok_own, okR_row, pure_int, pure_bool, pure_str, pure_nil, pure_sl, flat_int, flat_bool, flat_str, flat_nil, flat_sl, flat_agg, ↓ev_app, app_nil, app_own, appO_row, ↓act_cvi, cviA_int, ↓act_cvs, cvsA_str, ↓act_cvbs, cvbsA_some, strO_some, ↓act_beq, beqA_f, beqA_t, ↓act_eqs, eqsA_agg, eqsR_f, eqsR_t, same_nil, andB_some, same_int, same_bool, same_str, ↓act_ix, ixA_str, ↓act_subs, subsA_str, subsB_some, ia_none, ia_int, omap_none, omap_some, ↓act_sub, subA_some, subB_some, ↓act_mk, mkA_int, ↓act_mnx, mnx_t, mnx_f, ↓norm_mk, keepT_nil, keepT_cons, keepO_nil, keepO_cons, ren_unk, ren_und, ren_ite, ren_int, ren_bool, ren_str, ren_nil, ren_sl, ren_agg, ren_tup, ren_own, ren_ptr, ren_box, ren_row, ren_dead, bin_shl8, bin_shr4, toNat0, toNat1, toNatC, leR, zeroLe, nat0]
theorem vals7 : valuesOf (bs [82]) [fdN] (bs [247]) = ([⟨7, bs []⟩], 0, 0) := by kernel_rfl
theorem run15 : run T S23 15 [] = some (.bool true) := by
  have h72 := run72
  have h23 := run23
  have h20 := run20 (S := S23) (bs [82]) [fdN] (bs [247]) dig_short (by decide)
  rw [vals7] at h20
  simp only [encVs, List.map_cons, List.map_nil, encF, encV, fdN] at h20
  simp only [dig] at h72 h23
  have b1 : ((bs [247]).toList == (bs [247]).toList) = true := by simp
  (refine run_fn T15 ⟨rfl, by decide⟩ ?_; rw [start15])
  simp (config := {decide := true, contextual := true, maxSteps := 3000000}) only [F15, h72, h23, h20, b1, List.getD_cons_zero, List.replicate, ↓bindC_seq, ↓bindC_reg, ↓bindOps_plain, ↓bindOps_gt, ↓bindOps_gf, ↓bindOps_nil, onBool_bool, onEff_some, effT_bool, effF_bool, effT_ite, effF_ite, guard_and, ite_nest, ite_and, ite_or, Bool.not_not, Bool.not_false, Bool.not_true, nw_mv, nw_pick, nw_box, nw_new, nw_bld, nw_lit, nw_ld, nw_fa, nw_ia, nw_ix, nw_subs, nw_sub, nw_mk, nw_bin, nw_beq, nw_eqs, nw_un, nw_cvi, nw_cvs, nw_cvsb, nw_cvbs, nw_lens, nw_len, nw_cpy, nw_mnx, nw_ext, nw_call, nw_nck, ↓act_mv, ↓act_pick, ↓act_bin, ↓act_un, ↓act_lens, pickA_bool, valA_some, lensA_str, bin_int, bin_str, un_not, un_neg, andThen_val, ↓get_t, ↓get_c, ↓lgs, ↓lgz, put_mk, lss, lsz, Bool.false_eq_true, reduceCtorEq, ↓reduceIte, decide_true, decide_false, ite_val, ite_bool, ite_int, ↓roundK_normal, ↓roundK_exit, ↓roundK_ret, ↓seqK_normal, ↓seqK_exit, ↓seqK_ret, ↓bindC_cond, ↓bindC_skip, ↓bindC_exit, ↓bindC_ret, ↓finK_ret, ↓finK_normal, ↓bindC_blk, ↓blkK_normal, ↓blkK_exit, ↓blkK_ret, ↓bindC_loop, ↓bindOps_w, orNone_some, andThen_mk, splice, results, resT, resTs, AV.key, Bool.and_true, Bool.true_and, and_true, true_and, and_self, List.flatMap_nil, List.flatMap_cons, List.append_nil, List.nil_append, List.cons_append, List.map_cons, List.map_nil, List.all_cons, List.all_nil, List.length_cons, List.length_nil, Nat.reduceAdd, Nat.reduceLT, Nat.reduceLeDiff, Nat.reduceEqDiff, Nat.reduceSub, Nat.zero_add, Nat.add_zero, List.drop_succ_cons, List.drop_zero, List.take_succ_cons, List.take_zero, ↓lqz, ↓lqs, lmz, lms, osz, oss, ↓ok_mk, okO_some, ↓gen_mk, genO_some, setObj_mk, put_some, put_none, frz_nil, frz_cons, frz_row, ↓objs_mk, ref_row, ref_box, kil_nil, kil_cons, kil_obj, v1_own, v1O_row, v1_int, v1_bool, v1_str, v1_nil, v1_sl, vs_nil, vs_cons, vsC_some, cells_agg, cells_int, cells_bool', cells_str', cells_nil, cells_sl, cells_own, arg_agg, argG_some, arg_int, arg_bool, arg_str, arg_nil, arg_sl, arg_own, arg1_sl, norm_int, norm_bool, norm_str, norm_nil, norm_sl, args_nil, args_cons, elems_nil, elems_sl, elems_own, elO_row, ↓act_cvsb, cvsbA_str, ↓act_len, lenA_some, ↓act_ia, iaA_sl, iaA_own, iaO_row, ↓act_ld1, ld1_ptr, ldB_box, ldO_some, ld1_el, ld1_rp, ldR_row, ldP_int, ldP_bool, ldP_str, ldP_nil, ldP_sl, ↓act_ldn, ldV_some, ldn_ptr, ldnB_box, ldn_el, ↓act_fa, faA_ptr, faB_box, faA_el, ↓act_ext, extA_tup, extO_int, extO_bool, extO_str, extO_sl, extO_agg, ↓act_call, callA_some, callR_fr, callR_int, callR_bool, callR_str, callR_sl, callR_agg, callR_tup, ↓act_box, boxA_some, ↓act_new, ↓act_cpy, cpyA_some, ↓act_bld, bldA_some, fill_nil, fill_cons, fillC_some, ksA_some, ↓act_lit, litA_some, lits_nil, lits_cons, litsC_some, ↓ev_st, st_ptr, stB_box, parts_agg, parts_int, parts_bool, parts_str, parts_nil, parts_sl, parts_own, ok_int, ok_bool, ok_str, ok_nil, ok_sl, ok_own, okR_row, pure_int, pure_bool, pure_str, pure_nil, pure_sl, flat_int, flat_bool, flat_str, flat_nil, flat_sl, flat_agg, ↓ev_app, app_nil, app_own, appO_row, ↓act_cvi, cviA_int, ↓act_cvs, cvsA_str, ↓act_cvbs, cvbsA_some, strO_some, ↓act_beq, beqA_f, beqA_t, ↓act_eqs, eqsA_agg, eqsR_f, eqsR_t, same_nil, andB_some, same_int, same_bool, same_str, ↓act_ix, ixA_str, ↓act_subs, subsA_str, subsB_some, ia_none, ia_int, omap_none, omap_some, ↓act_sub, subA_some, subB_some, ↓act_mk, mkA_int, ↓act_mnx, mnx_t, mnx_f, ↓norm_mk, keepT_nil, keepT_cons, keepO_nil, keepO_cons, ren_unk, ren_und, ren_ite, ren_int, ren_bool, ren_str, ren_nil, ren_sl, ren_agg, ren_tup, ren_own, ren_ptr, ren_box, ren_row, ren_dead, bin_shl8, bin_shr4, toNat0, toNat1, toNatC, leR, zeroLe, nat0]
  rfl
end Go.Bv
