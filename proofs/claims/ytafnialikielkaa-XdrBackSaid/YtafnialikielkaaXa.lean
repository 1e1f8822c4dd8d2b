/- Experiments. -/
import Derived.Test.YtafnialikielkaaAm14
import Derived.Test.YtafnialikielkaaRows
import Derived.KernelRfl
namespace Go.Proofs.Ytafnialikielkaa
open Go Go.AM
set_option linter.unusedSimpArgs false

theorem size_am (n : Int) (h : Heap) : Cl Try.prog 49 [.int .i64 n] h fun v h' => v = .bool (decide (n = 1 ∨ n = 2 ∨ n = 4 ∨ n = 8)) ∧ h' = h := by
  refine Cl.enter Try.func49 rfl 12 Try.ntmps49 (by simp) ?_
  intro env hl ha
  have h0 : sl env 0 = .int .i64 n := ha 0 (by simp)
  clear ha
  iterate 5
    all_goals
      repeat (first | (with_reducible refine Wp.seq ?_) | (with_reducible refine Wp.region ?_) | (with_reducible refine Wp.block ?_) | (with_reducible refine Wp.scope ?_) | (with_reducible refine Wp.skip ?_) | (with_reducible refine Wp.exit ?_) | (with_reducible refine Wp.ret ?_) | (with_reducible refine Wp.label ?_) | (simp (disch := (first | (simp only [List.length_set, hl]; omega) | (simp only [List.length_set, el]; omega) | omega | rfl)) only [then_normal, then_exit, then_ret, inBlock_normal, inBlock_ret, inBlock_exit, inBlock_other, WOps_nil, WOps_pick', WPick_bool, WOps_nilCheck', WNil_ptr, WOps_store', WSt_some, WOps_guard', WGd_tt, WGd_ff, WGd_tf, WGd_ft, gval_some, nthD_zero, nthD_succ, WOps_move, WOps_assign, WOps_alloc, WOps_box, WOps_build, WOps_buildSlice, WOps_load, WOps_binOp, WOps_unOp, WOps_convert, WOps_makeSlice, WOps_fieldAddr, WOps_field, WOps_indexAddr, WOps_index, WOps_extract, WOps_builtin, WOps_call, WV_some, WH_some, WH_with, aEval_tmp, aEval_const, aEval_global, aEval_func, aPut_some, aPut_none, List.length_set, bin_add, bin_sub, bin_mul, bin_and, bin_or, bin_eql, bin_neq, bin_lss, bin_leq, bin_gtr, bin_geq, bin_shl, bin_shr, bne_self_eq_false, beq_self_eq_true, un_not, un_neg, List.map_cons, List.map_nil, if_true, if_false, Bool.not_true, Bool.not_false, Bool.false_eq_true, reduceIte, decide_true, decide_false, Int.reduceLT, Int.reduceLE, Int.reduceMul, Int.reduceAdd, Int.reduceSub, Option.map_some, Option.map_none, sl_eq, sl_ne, WOps_slice, wrap_i64, h0]))
    all_goals try ((refine Wp.cond' ⟨_, by (simp (disch := (first | (simp only [List.length_set, hl]; omega) | (simp only [List.length_set, el]; omega) | omega | rfl)) only [then_normal, then_exit, then_ret, inBlock_normal, inBlock_ret, inBlock_exit, inBlock_other, WOps_nil, WOps_pick', WPick_bool, WOps_nilCheck', WNil_ptr, WOps_store', WSt_some, WOps_guard', WGd_tt, WGd_ff, WGd_tf, WGd_ft, gval_some, nthD_zero, nthD_succ, WOps_move, WOps_assign, WOps_alloc, WOps_box, WOps_build, WOps_buildSlice, WOps_load, WOps_binOp, WOps_unOp, WOps_convert, WOps_makeSlice, WOps_fieldAddr, WOps_field, WOps_indexAddr, WOps_index, WOps_extract, WOps_builtin, WOps_call, WV_some, WH_some, WH_with, aEval_tmp, aEval_const, aEval_global, aEval_func, aPut_some, aPut_none, List.length_set, bin_add, bin_sub, bin_mul, bin_and, bin_or, bin_eql, bin_neq, bin_lss, bin_leq, bin_gtr, bin_geq, bin_shl, bin_shr, bne_self_eq_false, beq_self_eq_true, un_not, un_neg, List.map_cons, List.map_nil, if_true, if_false, Bool.not_true, Bool.not_false, Bool.false_eq_true, reduceIte, decide_true, decide_false, Int.reduceLT, Int.reduceLE, Int.reduceMul, Int.reduceAdd, Int.reduceSub, Option.map_some, Option.map_none, sl_eq, sl_ne, wrap_i64, h0]; rfl), ?_, ?_⟩ <;> intro hb <;> simp only [beq_iff_eq, bne_iff_ne, ne_eq, decide_eq_true_eq, decide_eq_false_iff_not, beq_eq_false_iff_ne, bne_eq_false_iff_eq, Bool.not_eq_true', Bool.not_eq_false'] at hb))
  all_goals
    simp (disch := (simp only [List.length_set, *]; omega)) only [aRes_one Try.results49, sl_eq, sl_ne]
    simp [*]
end Go.Proofs.Ytafnialikielkaa
