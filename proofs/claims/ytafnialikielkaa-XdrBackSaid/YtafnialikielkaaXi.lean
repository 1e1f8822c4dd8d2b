/- The example of the chapter, over the abstract machine, in any heap. -/
import Derived.Test.YtafnialikielkaaXh
import Derived.Test.YtafnialikielkaaXs
import Derived.Test.YtafnialikielkaaAm16
namespace Go.Proofs.Ytafnialikielkaa
open Go Go.AM
set_option linter.unusedSimpArgs false

def abcde : List Value := [.int .u8 97, .int .u8 98, .int .u8 99, .int .u8 100, .int .u8 101]
theorem slice_abcde {h : Heap} : aBuildSlice Try.prog h 27 5 [(0, .int .u8 97), (1, .int .u8 98), (2, .int .u8 99), (3, .int .u8 100), (4, .int .u8 101)] = some (.slice (some ⟨h.next, 0, none⟩) 5 5, h.push (.cells abcde 5 false)) := by
  have e1 : Nat.ble 5 1048576 = true := rfl
  have e2 : (Try.t5).zero = some (.int .u8 0) := rfl
  have e4 : plainB 4 (Value.int .u8 0) = true := rfl
  have e6 : (Try.t5).size = 1 := rfl
  simp only [aBuildSlice, Try.underlying27, i5, e1, e2, e4, e6]
  rfl

theorem ptr_ne {a : Addr} {xo yo : Operand} : aBin Try.prog .eql 24 xo yo (.pointer (some a)) (.pointer none) = some (.bool false) := by
  simp [aBin, aEqF, Try.underlying24]
def abcRow : List Value := beTo abcde.length 4 ++ (abcde ++ padB abcde.length)
theorem abc_str : ((strS abcRow).data.toList == (⟨#[0, 0, 0, 5, 97, 98, 99, 100, 101, 0, 0, 0]⟩ : ByteArray).data.toList) = true := by kernel_rfl
theorem abc_all : abcde.all Value.oneCell' = true := by kernel_rfl
theorem abcRow_all : abcRow.all Value.oneCell' = true := by kernel_rfl
theorem abcRow_isB : intsOf abcRow = some [0, 0, 0, 5, 97, 98, 99, 100, 101, 0, 0, 0] := by kernel_rfl
theorem abc_flat (x : Value) : [] ++ [(x, abcde)].flatMap bytesB = abcRow := by simp [bytesB, abcRow]

theorem known_am (h : Heap) : Cl Try.prog 8 [] h fun v h' => v = .bool true ∧ Same h h' noS := by
  refine Cl.enter Try.func8 rfl 14 Try.ntmps8 (by simp) ?_
  intro env hl ha
  clear ha
  repeat (first | (with_reducible refine Wp.seq ?_) | (with_reducible refine Wp.region ?_) | (with_reducible refine Wp.drawS (by decide +kernel) ?_) | (with_reducible refine Wp.block ?_) | (with_reducible refine Wp.scope ?_) | (with_reducible refine Wp.skip ?_) | (with_reducible refine Wp.exit ?_) | (with_reducible refine Wp.ret ?_) | (with_reducible refine Wp.label ?_) | (simp (disch := (first | (simp only [List.length_set, hl]; omega) | (simp only [List.length_set, el]; omega) | omega | rfl)) only [then_normal, then_exit, then_ret, inBlock_normal, inBlock_ret, inBlock_exit, inBlock_other, WOps_nil, WOps_pick', WPick_bool, WOps_nilCheck', WNil_ptr, WOps_store', WSt_some, WOps_guard', WGd_tt, WGd_ff, WGd_tf, WGd_ft, gval_some, nthD_zero, nthD_succ, WOps_move, WOps_assign, WOps_alloc, WOps_box, WOps_build, WOps_buildSlice, WOps_load, WOps_binOp, WOps_unOp, WOps_convert, WOps_makeSlice, WOps_fieldAddr, WOps_field, WOps_indexAddr, WOps_index, WOps_extract, WOps_builtin, WOps_call, WV_some, WH_some, WH_with, aEval_tmp, aEval_const, aEval_global, aEval_func, aPut_some, aPut_none, List.length_set, bin_add, bin_sub, bin_mul, bin_and, bin_or, bin_eql, bin_neq, bin_lss, bin_leq, bin_gtr, bin_geq, bin_shl, bin_shr, bne_self_eq_false, beq_self_eq_true, un_not, un_neg, List.map_cons, List.map_nil, if_true, if_false, Bool.not_true, Bool.not_false, Bool.false_eq_true, reduceIte, decide_true, decide_false, Int.reduceLT, Int.reduceLE, Int.reduceMul, Int.reduceAdd, Int.reduceSub, Option.map_some, Option.map_none, sl_eq, sl_ne, WOps_slice, wrap_i64]))
  refine (newWriter_am h).mono ?_
  rintro r h1 ⟨rfl, rfl⟩
  repeat (first | (with_reducible refine Wp.seq ?_) | (with_reducible refine Wp.region ?_) | (with_reducible refine Wp.drawS (by decide +kernel) ?_) | (with_reducible refine Wp.block ?_) | (with_reducible refine Wp.scope ?_) | (with_reducible refine Wp.skip ?_) | (with_reducible refine Wp.exit ?_) | (with_reducible refine Wp.ret ?_) | (with_reducible refine Wp.label ?_) | (simp (disch := (first | (simp only [List.length_set, hl]; omega) | (simp only [List.length_set, el]; omega) | omega | rfl)) only [then_normal, then_exit, then_ret, inBlock_normal, inBlock_ret, inBlock_exit, inBlock_other, WOps_nil, WOps_pick', WPick_bool, WOps_nilCheck', WNil_ptr, WOps_store', WSt_some, WOps_guard', WGd_tt, WGd_ff, WGd_tf, WGd_ft, gval_some, nthD_zero, nthD_succ, WOps_move, WOps_assign, WOps_alloc, WOps_box, WOps_build, WOps_buildSlice, WOps_load, WOps_binOp, WOps_unOp, WOps_convert, WOps_makeSlice, WOps_fieldAddr, WOps_field, WOps_indexAddr, WOps_index, WOps_extract, WOps_builtin, WOps_call, WV_some, WH_some, WH_with, aEval_tmp, aEval_const, aEval_global, aEval_func, aPut_some, aPut_none, List.length_set, bin_add, bin_sub, bin_mul, bin_and, bin_or, bin_eql, bin_neq, bin_lss, bin_leq, bin_gtr, bin_geq, bin_shl, bin_shr, bne_self_eq_false, beq_self_eq_true, un_not, un_neg, List.map_cons, List.map_nil, if_true, if_false, Bool.not_true, Bool.not_false, Bool.false_eq_true, reduceIte, decide_true, decide_false, Int.reduceLT, Int.reduceLE, Int.reduceMul, Int.reduceAdd, Int.reduceSub, Option.map_some, Option.map_none, sl_eq, sl_ne, WOps_slice, wrap_i64, ptr_ne]))
  refine Wp.cond_false (by (simp (disch := (first | (simp only [List.length_set, hl]; omega) | (simp only [List.length_set, el]; omega) | omega | rfl)) only [List.length_set, sl_eq, sl_ne, aEval_tmp])) ?_
  have hw : WR (h.push (.cells [.slice none 0 0] 65 false)) h.next 65 (.slice none 0 0) [] := WR.new
  obtain ⟨hw2, hoff2, hs2⟩ := Off.fresh (cs := abcde) (el := 5) (ro := false) (c := 5) hw
  obtain ⟨hw3, hoff3, hs3⟩ := Off.fresh (cs := [.slice (some ⟨(h.push (.cells [.slice none 0 0] 65 false)).next, 0, none⟩) 5 5]) (el := 27) (ro := false) (c := 1) hw2
  have hg : ((h.push (.cells [.slice none 0 0] 65 false)).push (.cells abcde 5 false)).get (h.push (.cells [.slice none 0 0] 65 false)).next = some (.cells abcde 5 false) := Heap.get_push_new
  have hcs := fun o n => conv_self (off := o) (n := n) (c := 5) hg rfl
  repeat (first | (with_reducible refine Wp.seq ?_) | (with_reducible refine Wp.region ?_) | (with_reducible refine Wp.drawS (by decide +kernel) ?_) | (with_reducible refine Wp.block ?_) | (with_reducible refine Wp.scope ?_) | (with_reducible refine Wp.skip ?_) | (with_reducible refine Wp.exit ?_) | (with_reducible refine Wp.ret ?_) | (with_reducible refine Wp.label ?_) | (simp (disch := (first | (simp only [List.length_set, hl]; omega) | (simp only [List.length_set, el]; omega) | omega | rfl)) only [then_normal, then_exit, then_ret, inBlock_normal, inBlock_ret, inBlock_exit, inBlock_other, WOps_nil, WOps_pick', WPick_bool, WOps_nilCheck', WNil_ptr, WOps_store', WSt_some, WOps_guard', WGd_tt, WGd_ff, WGd_tf, WGd_ft, gval_some, nthD_zero, nthD_succ, WOps_move, WOps_assign, WOps_alloc, WOps_box, WOps_build, WOps_buildSlice, WOps_load, WOps_binOp, WOps_unOp, WOps_convert, WOps_makeSlice, WOps_fieldAddr, WOps_field, WOps_indexAddr, WOps_index, WOps_extract, WOps_builtin, WOps_call, WV_some, WH_some, WH_with, aEval_tmp, aEval_const, aEval_global, aEval_func, aPut_some, aPut_none, List.length_set, bin_add, bin_sub, bin_mul, bin_and, bin_or, bin_eql, bin_neq, bin_lss, bin_leq, bin_gtr, bin_geq, bin_shl, bin_shr, bne_self_eq_false, beq_self_eq_true, un_not, un_neg, List.map_cons, List.map_nil, if_true, if_false, Bool.not_true, Bool.not_false, Bool.false_eq_true, reduceIte, decide_true, decide_false, Int.reduceLT, Int.reduceLE, Int.reduceMul, Int.reduceAdd, Int.reduceSub, Option.map_some, Option.map_none, sl_eq, sl_ne, WOps_slice, wrap_i64, slice_abcde, hcs, slice1_row]))
  refine (bytes_am _ [(_, abcde)] h.next _ [] _ ⟨by simpa using hoff3, by simp, fun p hp => by obtain rfl := List.mem_singleton.1 hp; exact ⟨hoff2.step hs3 (fun _ x => .inl x), abc_all, (by decide : abcde.length ≤ 4000), _, _, _, rfl⟩⟩ hw3 rfl (by simp)).mono ?_
  rintro r h2 ⟨-, v2, hw4, hs4, hf4⟩
  rw [abc_flat] at hw4
  repeat (first | (with_reducible refine Wp.seq ?_) | (with_reducible refine Wp.region ?_) | (with_reducible refine Wp.drawS (by decide +kernel) ?_) | (with_reducible refine Wp.block ?_) | (with_reducible refine Wp.scope ?_) | (with_reducible refine Wp.skip ?_) | (with_reducible refine Wp.exit ?_) | (with_reducible refine Wp.ret ?_) | (with_reducible refine Wp.label ?_) | (simp (disch := (first | (simp only [List.length_set, hl]; omega) | (simp only [List.length_set, el]; omega) | omega | rfl)) only [then_normal, then_exit, then_ret, inBlock_normal, inBlock_ret, inBlock_exit, inBlock_other, WOps_nil, WOps_pick', WPick_bool, WOps_nilCheck', WNil_ptr, WOps_store', WSt_some, WOps_guard', WGd_tt, WGd_ff, WGd_tf, WGd_ft, gval_some, nthD_zero, nthD_succ, WOps_move, WOps_assign, WOps_alloc, WOps_box, WOps_build, WOps_buildSlice, WOps_load, WOps_binOp, WOps_unOp, WOps_convert, WOps_makeSlice, WOps_fieldAddr, WOps_field, WOps_indexAddr, WOps_index, WOps_extract, WOps_builtin, WOps_call, WV_some, WH_some, WH_with, aEval_tmp, aEval_const, aEval_global, aEval_func, aPut_some, aPut_none, List.length_set, bin_add, bin_sub, bin_mul, bin_and, bin_or, bin_eql, bin_neq, bin_lss, bin_leq, bin_gtr, bin_geq, bin_shl, bin_shr, bne_self_eq_false, beq_self_eq_true, un_not, un_neg, List.map_cons, List.map_nil, if_true, if_false, Bool.not_true, Bool.not_false, Bool.false_eq_true, reduceIte, decide_true, decide_false, Int.reduceLT, Int.reduceLE, Int.reduceMul, Int.reduceAdd, Int.reduceSub, Option.map_some, Option.map_none, sl_eq, sl_ne, WOps_slice, wrap_i64]))
  refine (done_am h.next v2 _ h2 hw4 abcRow_all (by decide)).mono ?_
  rintro r h3 ⟨hb5, hs5, hf5⟩
  have hcv := conv_row hb5.row ⟨_, abcRow_isB⟩
  repeat (first | (with_reducible refine Wp.seq ?_) | (with_reducible refine Wp.region ?_) | (with_reducible refine Wp.drawS (by decide +kernel) ?_) | (with_reducible refine Wp.block ?_) | (with_reducible refine Wp.scope ?_) | (with_reducible refine Wp.skip ?_) | (with_reducible refine Wp.exit ?_) | (with_reducible refine Wp.ret ?_) | (with_reducible refine Wp.label ?_) | (simp (disch := (first | (simp only [List.length_set, hl]; omega) | (simp only [List.length_set, el]; omega) | omega | rfl)) only [then_normal, then_exit, then_ret, inBlock_normal, inBlock_ret, inBlock_exit, inBlock_other, WOps_nil, WOps_pick', WPick_bool, WOps_nilCheck', WNil_ptr, WOps_store', WSt_some, WOps_guard', WGd_tt, WGd_ff, WGd_tf, WGd_ft, gval_some, nthD_zero, nthD_succ, WOps_move, WOps_assign, WOps_alloc, WOps_box, WOps_build, WOps_buildSlice, WOps_load, WOps_binOp, WOps_unOp, WOps_convert, WOps_makeSlice, WOps_fieldAddr, WOps_field, WOps_indexAddr, WOps_index, WOps_extract, WOps_builtin, WOps_call, WV_some, WH_some, WH_with, aEval_tmp, aEval_const, aEval_global, aEval_func, aPut_some, aPut_none, List.length_set, bin_add, bin_sub, bin_mul, bin_and, bin_or, bin_eql, bin_neq, bin_lss, bin_leq, bin_gtr, bin_geq, bin_shl, bin_shr, bne_self_eq_false, beq_self_eq_true, un_not, un_neg, List.map_cons, List.map_nil, if_true, if_false, Bool.not_true, Bool.not_false, Bool.false_eq_true, reduceIte, decide_true, decide_false, Int.reduceLT, Int.reduceLE, Int.reduceMul, Int.reduceAdd, Int.reduceSub, Option.map_some, Option.map_none, sl_eq, sl_ne, WOps_slice, wrap_i64, hcv, str_eq]))
  simp (disch := (first | (simp only [List.length_set, hl]; omega) | rfl)) only [aRes_one Try.results8, List.length_set, sl_eq, sl_ne]
  refine ⟨congrArg Value.bool abc_str, ?_⟩
  have s1 : Same h (h.push (.cells [.slice none 0 0] 65 false)) noS := Same.push _ _ _
  have s4 := (hs2.trans hs3 (fun _ x => x) (fun _ _ x => x)).trans hs4 (fun _ x => x) (fun _ _ x => x)
  have hfr : ∀ j, own (.slice none 0 0) h.next j → h.next ≤ j := by
    rintro j (rfl | ⟨o, m, d, hh⟩)
    · exact Nat.le_refl _
    · cases hh
  exact (s1.trans s4 (fun _ x => x) (fun j hj x => absurd (hfr j x) (by omega))).trans hs5 (fun _ x => x) (fun _ _ x => x)
end Go.Proofs.Ytafnialikielkaa
