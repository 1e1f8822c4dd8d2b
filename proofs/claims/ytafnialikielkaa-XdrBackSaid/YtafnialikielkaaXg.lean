/- What the laws' own functions about writers come to, over the abstract machine. -/
import Derived.Test.YtafnialikielkaaXf
namespace Go.Proofs.Ytafnialikielkaa
open Go Go.AM
set_option linter.unusedSimpArgs false

theorem nil_eq {xo yo : Operand} {n c : Nat} : aBin Try.prog .eql 27 xo yo (.slice none n c) (.slice none 0 0) = some (.bool true) := by
  simp [aBin, aEqF, Try.underlying27]
theorem nil_ne {xo yo : Operand} {a : Addr} {n c : Nat} : aBin Try.prog .eql 27 xo yo (.slice (some a) n c) (.slice none 0 0) = some (.bool false) := by
  simp [aBin, aEqF, Try.underlying27]
theorem slice_none {h : Heap} : aBuildSlice Try.prog h 27 0 [] = some (.slice (some ⟨h.next, 0, none⟩) 0 0, h.push (.cells [] 5 false)) := by
  have e1 : Nat.ble 0 1048576 = true := rfl
  have e2 : (Try.t5).zero = some (.int .u8 0) := rfl
  have e3 : (Value.int .u8 0).cells = #[.int .u8 0] := rfl
  have e4 : plainB 4 (Value.int .u8 0) = true := rfl
  have e5 : Nat.ble 0 0 = true := rfl
  have e6 : (Try.t5).size = 1 := rfl
  simp [aBuildSlice, Try.underlying27, i5, e1, e2, e3, e4, e5, e6, zeroRow, aFill, aNew]

theorem clone_am (bv : Value) (bs : List Value) (h : Heap) (hb : Row h bv bs) (hb1 : bs.all Value.oneCell' = true) (hlen : bs.length ≤ 1000000000) :
    Cl Try.prog 31 [bv] h fun r h' => Buf h' 5 r bs ∧ Same h h' noS ∧ ∀ j, bufBlk r j → h.next ≤ j := by
  refine Cl.enter Try.func31 rfl 8 Try.ntmps31 (by simp) ?_
  intro env hl ha
  have h0 : sl env 0 = bv := ha 0 (by simp)
  clear ha
  have hnil : ∀ j, ¬ bufBlk (.slice none 0 0) j := by rintro j ⟨o, m, d, hh⟩; cases hh
  by_cases hn : bv = .slice none 0 0 ∧ bs = []
  · obtain ⟨rfl, rfl⟩ := hn
    repeat (first | (with_reducible refine Wp.seq ?_) | (with_reducible refine Wp.region ?_) | (with_reducible refine Wp.block ?_) | (with_reducible refine Wp.scope ?_) | (with_reducible refine Wp.skip ?_) | (with_reducible refine Wp.exit ?_) | (with_reducible refine Wp.ret ?_) | (with_reducible refine Wp.label ?_) | (simp (disch := (first | (simp only [List.length_set, hl]; omega) | (simp only [List.length_set, el]; omega) | omega | rfl)) only [then_normal, then_exit, then_ret, inBlock_normal, inBlock_ret, inBlock_exit, inBlock_other, WOps_nil, WOps_pick', WPick_bool, WOps_nilCheck', WNil_ptr, WOps_store', WSt_some, WOps_guard', WGd_tt, WGd_ff, WGd_tf, WGd_ft, gval_some, nthD_zero, nthD_succ, WOps_move, WOps_assign, WOps_alloc, WOps_box, WOps_build, WOps_buildSlice, WOps_load, WOps_binOp, WOps_unOp, WOps_convert, WOps_makeSlice, WOps_fieldAddr, WOps_field, WOps_indexAddr, WOps_index, WOps_extract, WOps_builtin, WOps_call, WV_some, WH_some, WH_with, aEval_tmp, aEval_const, aEval_global, aEval_func, aPut_some, aPut_none, List.length_set, bin_add, bin_sub, bin_mul, bin_and, bin_or, bin_eql, bin_neq, bin_lss, bin_leq, bin_gtr, bin_geq, bin_shl, bin_shr, bne_self_eq_false, beq_self_eq_true, un_not, un_neg, List.map_cons, List.map_nil, if_true, if_false, Bool.not_true, Bool.not_false, Bool.false_eq_true, reduceIte, decide_true, decide_false, Int.reduceLT, Int.reduceLE, Int.reduceMul, Int.reduceAdd, Int.reduceSub, Option.map_some, Option.map_none, sl_eq, sl_ne, WOps_slice, wrap_i64, h0, nil_eq]))
    refine Wp.cond_true (by (simp (disch := (first | (simp only [List.length_set, hl]; omega) | (simp only [List.length_set, el]; omega) | omega | rfl)) only [List.length_set, sl_eq, sl_ne, aEval_tmp])) ?_
    repeat (first | (with_reducible refine Wp.seq ?_) | (with_reducible refine Wp.region ?_) | (with_reducible refine Wp.block ?_) | (with_reducible refine Wp.scope ?_) | (with_reducible refine Wp.skip ?_) | (with_reducible refine Wp.exit ?_) | (with_reducible refine Wp.ret ?_) | (with_reducible refine Wp.label ?_) | (simp (disch := (first | (simp only [List.length_set, hl]; omega) | (simp only [List.length_set, el]; omega) | omega | rfl)) only [then_normal, then_exit, then_ret, inBlock_normal, inBlock_ret, inBlock_exit, inBlock_other, WOps_nil, WOps_pick', WPick_bool, WOps_nilCheck', WNil_ptr, WOps_store', WSt_some, WOps_guard', WGd_tt, WGd_ff, WGd_tf, WGd_ft, gval_some, nthD_zero, nthD_succ, WOps_move, WOps_assign, WOps_alloc, WOps_box, WOps_build, WOps_buildSlice, WOps_load, WOps_binOp, WOps_unOp, WOps_convert, WOps_makeSlice, WOps_fieldAddr, WOps_field, WOps_indexAddr, WOps_index, WOps_extract, WOps_builtin, WOps_call, WV_some, WH_some, WH_with, aEval_tmp, aEval_const, aEval_global, aEval_func, aPut_some, aPut_none, List.length_set, bin_add, bin_sub, bin_mul, bin_and, bin_or, bin_eql, bin_neq, bin_lss, bin_leq, bin_gtr, bin_geq, bin_shl, bin_shr, bne_self_eq_false, beq_self_eq_true, un_not, un_neg, List.map_cons, List.map_nil, if_true, if_false, Bool.not_true, Bool.not_false, Bool.false_eq_true, reduceIte, decide_true, decide_false, Int.reduceLT, Int.reduceLE, Int.reduceMul, Int.reduceAdd, Int.reduceSub, Option.map_some, Option.map_none, sl_eq, sl_ne, WOps_slice, wrap_i64, h0]))
    simp (disch := (first | (simp only [List.length_set, hl]; omega) | rfl)) only [aRes_one Try.results31, List.length_set, sl_eq, sl_ne]
    exact ⟨.inl ⟨rfl, rfl⟩, Same.refl _ _, fun j hj => (hnil j hj).elim⟩
  · obtain ⟨a, n, c, hv⟩ : ∃ a n c, bv = .slice (some a) n c := by
      rcases hb with hb | ⟨_, k, off, c, rfl⟩ | ⟨k, off, cap, cs, el, ro, rfl, _⟩
      · exact (hn hb).elim
      · exact ⟨_, _, _, rfl⟩
      · exact ⟨_, _, _, rfl⟩
    have hs0 : Same h (h.push (.cells [] 5 false)) noS := Same.push _ _ _
    have hb2 := hb.same hs0 (fun _ _ _ _ _ x => x)
    have hbuf : Buf (h.push (.cells [] 5 false)) 5 (.slice (some ⟨h.next, 0, none⟩) 0 0) [] := .inr (.inl ⟨rfl, h.next, [], 5, false, rfl, Heap.get_push_new⟩)
    obtain ⟨v1, hh1, ha1, hbv, hs1, hf1⟩ := Buf.append (P := Try.prog) hbuf Try.underlying27 i5 rfl rfl rfl rfl (hb2.src Try.underlying27 (by simp) rfl) rfl hb1 (small_of (by simp; omega)) (small_of (by simp [Try.t5]; omega))
    have hne : ∀ xo yo, aBin Try.prog .eql 27 xo yo bv (.slice none 0 0) = some (.bool false) := fun xo yo => by rw [hv]; exact nil_ne
    repeat (first | (with_reducible refine Wp.seq ?_) | (with_reducible refine Wp.region ?_) | (with_reducible refine Wp.block ?_) | (with_reducible refine Wp.scope ?_) | (with_reducible refine Wp.skip ?_) | (with_reducible refine Wp.exit ?_) | (with_reducible refine Wp.ret ?_) | (with_reducible refine Wp.label ?_) | (simp (disch := (first | (simp only [List.length_set, hl]; omega) | (simp only [List.length_set, el]; omega) | omega | rfl)) only [then_normal, then_exit, then_ret, inBlock_normal, inBlock_ret, inBlock_exit, inBlock_other, WOps_nil, WOps_pick', WPick_bool, WOps_nilCheck', WNil_ptr, WOps_store', WSt_some, WOps_guard', WGd_tt, WGd_ff, WGd_tf, WGd_ft, gval_some, nthD_zero, nthD_succ, WOps_move, WOps_assign, WOps_alloc, WOps_box, WOps_build, WOps_buildSlice, WOps_load, WOps_binOp, WOps_unOp, WOps_convert, WOps_makeSlice, WOps_fieldAddr, WOps_field, WOps_indexAddr, WOps_index, WOps_extract, WOps_builtin, WOps_call, WV_some, WH_some, WH_with, aEval_tmp, aEval_const, aEval_global, aEval_func, aPut_some, aPut_none, List.length_set, bin_add, bin_sub, bin_mul, bin_and, bin_or, bin_eql, bin_neq, bin_lss, bin_leq, bin_gtr, bin_geq, bin_shl, bin_shr, bne_self_eq_false, beq_self_eq_true, un_not, un_neg, List.map_cons, List.map_nil, if_true, if_false, Bool.not_true, Bool.not_false, Bool.false_eq_true, reduceIte, decide_true, decide_false, Int.reduceLT, Int.reduceLE, Int.reduceMul, Int.reduceAdd, Int.reduceSub, Option.map_some, Option.map_none, sl_eq, sl_ne, WOps_slice, wrap_i64, h0, hne]))
    refine Wp.cond_false (by (simp (disch := (first | (simp only [List.length_set, hl]; omega) | (simp only [List.length_set, el]; omega) | omega | rfl)) only [List.length_set, sl_eq, sl_ne, aEval_tmp])) ?_
    repeat (first | (with_reducible refine Wp.seq ?_) | (with_reducible refine Wp.region ?_) | (with_reducible refine Wp.block ?_) | (with_reducible refine Wp.scope ?_) | (with_reducible refine Wp.skip ?_) | (with_reducible refine Wp.exit ?_) | (with_reducible refine Wp.ret ?_) | (with_reducible refine Wp.label ?_) | (simp (disch := (first | (simp only [List.length_set, hl]; omega) | (simp only [List.length_set, el]; omega) | omega | rfl)) only [then_normal, then_exit, then_ret, inBlock_normal, inBlock_ret, inBlock_exit, inBlock_other, WOps_nil, WOps_pick', WPick_bool, WOps_nilCheck', WNil_ptr, WOps_store', WSt_some, WOps_guard', WGd_tt, WGd_ff, WGd_tf, WGd_ft, gval_some, nthD_zero, nthD_succ, WOps_move, WOps_assign, WOps_alloc, WOps_box, WOps_build, WOps_buildSlice, WOps_load, WOps_binOp, WOps_unOp, WOps_convert, WOps_makeSlice, WOps_fieldAddr, WOps_field, WOps_indexAddr, WOps_index, WOps_extract, WOps_builtin, WOps_call, WV_some, WH_some, WH_with, aEval_tmp, aEval_const, aEval_global, aEval_func, aPut_some, aPut_none, List.length_set, bin_add, bin_sub, bin_mul, bin_and, bin_or, bin_eql, bin_neq, bin_lss, bin_leq, bin_gtr, bin_geq, bin_shl, bin_shr, bne_self_eq_false, beq_self_eq_true, un_not, un_neg, List.map_cons, List.map_nil, if_true, if_false, Bool.not_true, Bool.not_false, Bool.false_eq_true, reduceIte, decide_true, decide_false, Int.reduceLT, Int.reduceLE, Int.reduceMul, Int.reduceAdd, Int.reduceSub, Option.map_some, Option.map_none, sl_eq, sl_ne, WOps_slice, wrap_i64, h0, slice_none, builtin_append, ha1]))
    simp (disch := (first | (simp only [List.length_set, hl]; omega) | rfl)) only [aRes_one Try.results31, List.length_set, sl_eq, sl_ne]
    have hfr : ∀ j, bufBlk (.slice (some ⟨h.next, 0, none⟩) 0 0) j → h.next ≤ j := by
      rintro j ⟨o, m, d, hh⟩
      injection hh with hh; injection hh with hh; injection hh with hh
      omega
    refine ⟨by simpa using hbv, hs0.trans hs1 (fun _ x => x) (fun b hb x => absurd (hfr b x) (by omega)), fun b x => (hf1 b x).elim (hfr b) (fun y => Nat.le_trans (by simp) y)⟩

theorem done_am (w : Nat) (v : Value) (bs : List Value) (h : Heap) (hw : WR h w 65 v bs) (hb1 : bs.all Value.oneCell' = true) (hlen : bs.length ≤ 1000000000) :
    Cl Try.prog 11 [.pointer (some ⟨w, 0, none⟩)] h fun r h' => Buf h' 5 r bs ∧ Same h h' noS ∧ ∀ j, bufBlk r j → h.next ≤ j := by
  refine Cl.enter Try.func11 rfl 8 Try.ntmps11 (by simp) ?_
  intro env hl ha
  have h0 : sl env 0 = .pointer (some ⟨w, 0, none⟩) := ha 0 (by simp)
  clear ha
  have hld := loadW hw.1
  repeat (first | (with_reducible refine Wp.seq ?_) | (with_reducible refine Wp.region ?_) | (with_reducible refine Wp.block ?_) | (with_reducible refine Wp.scope ?_) | (with_reducible refine Wp.skip ?_) | (with_reducible refine Wp.exit ?_) | (with_reducible refine Wp.ret ?_) | (with_reducible refine Wp.label ?_) | (simp (disch := (first | (simp only [List.length_set, hl]; omega) | (simp only [List.length_set, el]; omega) | omega | rfl)) only [then_normal, then_exit, then_ret, inBlock_normal, inBlock_ret, inBlock_exit, inBlock_other, WOps_nil, WOps_pick', WPick_bool, WOps_nilCheck', WNil_ptr, WOps_store', WSt_some, WOps_guard', WGd_tt, WGd_ff, WGd_tf, WGd_ft, gval_some, nthD_zero, nthD_succ, WOps_move, WOps_assign, WOps_alloc, WOps_box, WOps_build, WOps_buildSlice, WOps_load, WOps_binOp, WOps_unOp, WOps_convert, WOps_makeSlice, WOps_fieldAddr, WOps_field, WOps_indexAddr, WOps_index, WOps_extract, WOps_builtin, WOps_call, WV_some, WH_some, WH_with, aEval_tmp, aEval_const, aEval_global, aEval_func, aPut_some, aPut_none, List.length_set, bin_add, bin_sub, bin_mul, bin_and, bin_or, bin_eql, bin_neq, bin_lss, bin_leq, bin_gtr, bin_geq, bin_shl, bin_shr, bne_self_eq_false, beq_self_eq_true, un_not, un_neg, List.map_cons, List.map_nil, if_true, if_false, Bool.not_true, Bool.not_false, Bool.false_eq_true, reduceIte, decide_true, decide_false, Int.reduceLT, Int.reduceLE, Int.reduceMul, Int.reduceAdd, Int.reduceSub, Option.map_some, Option.map_none, sl_eq, sl_ne, WOps_slice, wrap_i64, h0, field65, hld]))
  refine (clone_am v bs h hw.2.1.row hb1 hlen).mono ?_
  rintro r h' hq
  repeat (first | (with_reducible refine Wp.seq ?_) | (with_reducible refine Wp.region ?_) | (with_reducible refine Wp.block ?_) | (with_reducible refine Wp.scope ?_) | (with_reducible refine Wp.skip ?_) | (with_reducible refine Wp.exit ?_) | (with_reducible refine Wp.ret ?_) | (with_reducible refine Wp.label ?_) | (simp (disch := (first | (simp only [List.length_set, hl]; omega) | (simp only [List.length_set, el]; omega) | omega | rfl)) only [then_normal, then_exit, then_ret, inBlock_normal, inBlock_ret, inBlock_exit, inBlock_other, WOps_nil, WOps_pick', WPick_bool, WOps_nilCheck', WNil_ptr, WOps_store', WSt_some, WOps_guard', WGd_tt, WGd_ff, WGd_tf, WGd_ft, gval_some, nthD_zero, nthD_succ, WOps_move, WOps_assign, WOps_alloc, WOps_box, WOps_build, WOps_buildSlice, WOps_load, WOps_binOp, WOps_unOp, WOps_convert, WOps_makeSlice, WOps_fieldAddr, WOps_field, WOps_indexAddr, WOps_index, WOps_extract, WOps_builtin, WOps_call, WV_some, WH_some, WH_with, aEval_tmp, aEval_const, aEval_global, aEval_func, aPut_some, aPut_none, List.length_set, bin_add, bin_sub, bin_mul, bin_and, bin_or, bin_eql, bin_neq, bin_lss, bin_leq, bin_gtr, bin_geq, bin_shl, bin_shr, bne_self_eq_false, beq_self_eq_true, un_not, un_neg, List.map_cons, List.map_nil, if_true, if_false, Bool.not_true, Bool.not_false, Bool.false_eq_true, reduceIte, decide_true, decide_false, Int.reduceLT, Int.reduceLE, Int.reduceMul, Int.reduceAdd, Int.reduceSub, Option.map_some, Option.map_none, sl_eq, sl_ne, WOps_slice, wrap_i64, h0]))
  simp (disch := (first | (simp only [List.length_set, hl]; omega) | rfl)) only [aRes_one Try.results11, List.length_set, sl_eq, sl_ne]
  exact hq

theorem build65 : aBuild Try.prog 65 [] = some (.agg #[.slice none 0 0]) := by kernel_rfl
theorem build29 : aBuild Try.prog 29 [] = some (.agg #[.slice none 0 0]) := by kernel_rfl
theorem box_nil {h : Heap} {T : TypeId} : aBox h T (.agg #[.slice none 0 0]) = some (.pointer (some ⟨h.next, 0, none⟩), h.push (.cells [.slice none 0 0] T false)) := rfl

theorem newWriter_am (h : Heap) : Cl Try.prog 9 [] h fun r h' => r = .pointer (some ⟨h.next, 0, none⟩) ∧ h' = h.push (.cells [.slice none 0 0] 65 false) := by
  refine Cl.enter Try.func9 rfl 3 Try.ntmps9 (by simp) ?_
  intro env hl ha
  clear ha
  repeat (first | (with_reducible refine Wp.seq ?_) | (with_reducible refine Wp.region ?_) | (with_reducible refine Wp.block ?_) | (with_reducible refine Wp.scope ?_) | (with_reducible refine Wp.skip ?_) | (with_reducible refine Wp.exit ?_) | (with_reducible refine Wp.ret ?_) | (with_reducible refine Wp.label ?_) | (simp (disch := (first | (simp only [List.length_set, hl]; omega) | (simp only [List.length_set, el]; omega) | omega | rfl)) only [then_normal, then_exit, then_ret, inBlock_normal, inBlock_ret, inBlock_exit, inBlock_other, WOps_nil, WOps_pick', WPick_bool, WOps_nilCheck', WNil_ptr, WOps_store', WSt_some, WOps_guard', WGd_tt, WGd_ff, WGd_tf, WGd_ft, gval_some, nthD_zero, nthD_succ, WOps_move, WOps_assign, WOps_alloc, WOps_box, WOps_build, WOps_buildSlice, WOps_load, WOps_binOp, WOps_unOp, WOps_convert, WOps_makeSlice, WOps_fieldAddr, WOps_field, WOps_indexAddr, WOps_index, WOps_extract, WOps_builtin, WOps_call, WV_some, WH_some, WH_with, aEval_tmp, aEval_const, aEval_global, aEval_func, aPut_some, aPut_none, List.length_set, bin_add, bin_sub, bin_mul, bin_and, bin_or, bin_eql, bin_neq, bin_lss, bin_leq, bin_gtr, bin_geq, bin_shl, bin_shr, bne_self_eq_false, beq_self_eq_true, un_not, un_neg, List.map_cons, List.map_nil, if_true, if_false, Bool.not_true, Bool.not_false, Bool.false_eq_true, reduceIte, decide_true, decide_false, Int.reduceLT, Int.reduceLE, Int.reduceMul, Int.reduceAdd, Int.reduceSub, Option.map_some, Option.map_none, sl_eq, sl_ne, WOps_slice, wrap_i64, build65, box_nil]))
  simp (disch := (first | (simp only [List.length_set, hl]; omega) | rfl)) only [aRes_one Try.results9, List.length_set, sl_eq, sl_ne]
  trivial

theorem WR.new {h : Heap} {T : TypeId} : WR (h.push (.cells [.slice none 0 0] T false)) h.next T (.slice none 0 0) [] :=
  ⟨Heap.get_push_new, .inl ⟨rfl, rfl⟩, by rintro ⟨o, m, d, hh⟩; cases hh⟩
theorem WR.same {h h' : Heap} {T : TypeId} {w : Nat} {v : Value} {bs : List Value} {S : Nat → Prop} (hw : WR h w T v bs) (hs : Same h h' S) (hd : ∀ j, own v w j → ¬ S j) : WR h' w T v bs :=
  ⟨hs.2 w _ hw.1 (hd w (.inl rfl)), hw.2.1.same hs (fun j hj => hd j (.inr hj)), hw.2.2⟩

/-- Both writers. -/
def TW (h : Heap) (w1 : Nat) (v1 : Value) (w2 : Nat) (v2 : Value) (bs : List Value) : Prop :=
  WR h w1 65 v1 bs ∧ WR h w2 29 v2 bs ∧ (∀ j, own v1 w1 j → ¬ own v2 w2 j) ∧ bs.all Value.oneCell' = true
def both (v1 : Value) (w1 : Nat) (v2 : Value) (w2 : Nat) : Nat → Prop := fun j => own v1 w1 j ∨ own v2 w2 j
/-- .. after a call of each. -/
theorem TW.two {h h1 h2 : Heap} {w1 w2 : Nat} {v1 v2 : Value} {bs b1 b2 : List Value} {r1 r2 : Value} (t : TW h w1 v1 w2 v2 bs) (q1 : WQ h w1 65 v1 b1 r1 h1) (hb : b1 = b2) (ha : b2.all Value.oneCell' = true) (q2 : WQ h1 w2 29 v2 b2 r2 h2) :
    ∃ v1' v2', TW h2 w1 v1' w2 v2' b2 ∧ Same h h2 (both v1 w1 v2 w2) ∧ ∀ j, both v1' w1 v2' w2 j → both v1 w1 v2 w2 j ∨ h.next ≤ j := by
  subst hb
  obtain ⟨t1, t2, td, ta⟩ := t
  obtain ⟨-, v1', hw1, hs1, hf1⟩ := q1
  obtain ⟨-, v2', hw2, hs2, hf2⟩ := q2
  have hlt2 := t2.lt
  have hd1 : ∀ j, own v1' w1 j → ¬ own v2 w2 j := fun j a b => (hf1 j a).elim (fun x => td j x b) (fun x => absurd (hlt2 j b) (by omega))
  have hlt1 := hw1.lt
  refine ⟨v1', v2', ⟨hw1.same hs2 hd1, hw2, fun j a b => (hf2 j b).elim (hd1 j a) (fun x => absurd (hlt1 j a) (by omega)), ha⟩, ?_, ?_⟩
  · exact hs1.trans hs2 (fun j x => .inl x) (fun j _ x => .inr x)
  · rintro j (x | x)
    · exact (hf1 j x).imp .inl id
    · exact (hf2 j x).elim (fun y => .inl (.inr y)) (fun y => .inr (Nat.le_trans hs1.1 y))
end Go.Proofs.Ytafnialikielkaa
