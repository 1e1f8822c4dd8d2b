/- Two arguments told to be the same: the program's SameArgs. -/
import Derived.Test.YtanknjpcgceccaaSame7
import Derived.Test.YtanknjpcgceccaaSame9

namespace Go.Proofs.Ytanknjpcgceccaa
open Go Go.AM
set_option linter.unusedSimpArgs false
set_option maxRecDepth 100000
attribute [local irreducible] WOps WV WH WSt WNil WPick WGd
theorem laidTwo {h : Heap} {vs ws : List Value} (hl : vs.length = 36) (h1 : One vs) (hl2 : ws.length = 36) (h2 : One ws) :
    ∃ h5 h6 h7 h8, aStore Try.prog ((h.push (.cells argsZ TA false)).push (.cells argsZ TA false)) 30 (pt h.next 0) (.agg vs.toArray) = some h5 ∧ aStore Try.prog h5 30 (pt (h.push (.cells argsZ TA false)).next 0) (.agg ws.toArray) = some h6 ∧
      aStore Try.prog h6 22 (pt h.next 28) (.slice none 0 0) = some h7 ∧ aStore Try.prog h7 22 (pt (h.push (.cells argsZ TA false)).next 28) (.slice none 0 0) = some h8 ∧
      h8.get h.next = some (.cells (vs.set 28 (.slice none 0 0)) TA false) ∧ h8.get (h.push (.cells argsZ TA false)).next = some (.cells (ws.set 28 (.slice none 0 0)) TA false) ∧ Same h h8 noS := by
  have s0 := ((St.nil (fun j => j < h.next) h (fun _ x => x)).push argsZ TA).push argsZ TA
  have p := s0.swap.stS (P := Try.prog) (t := 30) iArgs rfl (by rw [hl]; rfl) h1
  have q := p.2.swap.stS (P := Try.prog) (t := 30) iArgs rfl (by rw [hl2]; rfl) h2
  have r := q.2.swap.st (P := Try.prog) (t := 22) iRow rfl 28 (by omega) (v := .slice none 0 0) rfl rfl
  have s := r.2.swap.st (P := Try.prog) (t := 22) iRow rfl 28 (by omega) (v := .slice none 0 0) rfl rfl
  exact ⟨_, _, _, _, p.1, q.1, r.1, s.1, s.2.swap.hd, s.2.hd, s.2.nx, fun j e he _ => s.2.stay j e he (Heap.get_lt he)⟩
def AR.bare (a : AR) : AR := { a with dv := .slice none 0 0, data := [] }
theorem AR.bare_cells (a : AR) : a.cells.set 28 (.slice none 0 0) = a.bare.cells := rfl
def AR.eqR (a b : AR) : Bool := (a.file.data.toList == b.file.data.toList) && (a.to.data.toList == b.to.data.toList) && (a.name.data.toList == b.name.data.toList) && (a.toName.data.toList == b.toName.data.toList) && (a.path.data.toList == b.path.data.toList) && a.set.eq b.set && (a.guard == b.guard) && eqT a.g1 a.g2 b.g1 b.g2 && (a.access == b.access) && (a.offset == b.offset) && (a.count == b.count) && (a.stable == b.stable) && (a.mode == b.mode) && (a.type == b.type) && (a.verf == b.verf) && (a.cookie == b.cookie) && (a.cookieVerf == b.cookieVerf) && (a.dirCount == b.dirCount) && (a.maxCount == b.maxCount) && (a.spec1 == b.spec1) && (a.spec2 == b.spec2)
set_option maxHeartbeats 8000000 in
theorem sameArgs_am (a b : AR) (xa ya : List Int) (h : Heap) (ha : ∃ x n c, a.dv = .slice x n c) (hb : ∃ x n c, b.dv = .slice x n c) (ea : a.data = xa.map (Value.int .u8)) (eb : b.data = ya.map (Value.int .u8)) (ra : Row h a.dv a.data) (rb : Row h b.dv b.data) (hm : xa.length ≤ 9223372036854775807) :
    Cl Try.prog 15 [.agg a.cells.toArray, .agg b.cells.toArray] h fun v h' => v = .bool (decide (xa = ya) && a.eqR b) ∧ Same h h' noS := by
  refine Cl.enter Try.func15 rfl _ Try.ntmps15 (by simp) ?_
  intro env hl ha
  have h0 : sl env 0 = .agg a.cells.toArray := ha 0 (by simp)
  have h1 : sl env 1 = .agg b.cells.toArray := ha 1 (by simp)
  clear ha
  have oneA : a.cells.all Value.oneCell' = true := by obtain ⟨x, n, c, e⟩ := ha; simp [AR.cells, SA.cells, Value.oneCell', e]
  have oneB : b.cells.all Value.oneCell' = true := by obtain ⟨x, n, c, e⟩ := hb; simp [AR.cells, SA.cells, Value.oneCell', e]
  have lenA : a.cells.length = 36 := by simp [AR.cells, SA.cells]
  have lenB : b.cells.length = 36 := by simp [AR.cells, SA.cells]
  have xa' : aBox h 30 (.agg a.cells.toArray) = some (pt h.next 0, h.push (.cells a.cells TA false)) := by simp [aBox, aNew, Value.cells, oneA]
  have xb' : aBox (h.push (.cells a.cells TA false)) 30 (.agg b.cells.toArray) = some (pt (h.push (.cells a.cells TA false)).next 0, (h.push (.cells a.cells TA false)).push (.cells b.cells TA false)) := by simp [aBox, aNew, Value.cells, oneB]
  have sm : Same h ((h.push (.cells a.cells TA false)).push (.cells b.cells TA false)) noS := (Same.push _ _ _).trans (Same.push _ _ _) (fun _ x => x) (fun _ _ x => x)
  have ga : ((h.push (.cells a.cells TA false)).push (.cells b.cells TA false)).get h.next = some (.cells a.cells TA false) := Heap.get_push_old Heap.get_push_new
  have gb : ((h.push (.cells a.cells TA false)).push (.cells b.cells TA false)).get (h.push (.cells a.cells TA false)).next = some (.cells b.cells TA false) := Heap.get_push_new
  generalize hh2 : (h.push (.cells a.cells TA false)).push (.cells b.cells TA false) = h2 at xb' sm ga gb
  generalize (h.push (.cells a.cells TA false)).next = kb at xb' gb
  generalize h.push (.cells a.cells TA false) = h1' at xa' xb'
  generalize h.next = ka at xa' ga
  have la := ldAR ga
  have lb := ldAR gb
  have wa := ldAgg (v := a.cells) ga Try.underlying30 iArgs (o := 0) (by show 0 + 36 ≤ _; omega) (by show (a.cells.drop 0).take 36 = _; rw [List.drop_zero, List.take_of_length_le (by omega)])
  have wb := ldAgg (v := b.cells) gb Try.underlying30 iArgs (o := 0) (by show 0 + 36 ≤ _; omega) (by show (b.cells.drop 0).take 36 = _; rw [List.drop_zero, List.take_of_length_le (by omega)])
  have hka := Heap.get_lt ga
  have hkb := Heap.get_lt gb
  rw [ea] at ra
  rw [eb] at rb
  repeat (first | (with_reducible refine Wp.st ?_; simp only [wS]) | with_reducible refine Wp.drawS (by decide +kernel) ?_ | simp (disch := (first | (simp only [List.length_set, hl]; omega) | omega | rfl)) only [walkA, walkB, bne_self_eq_false, beq_self_eq_true, Option.map_some, Option.map_none, reduceIte, decide_true, decide_false, Int.reduceLT, Int.reduceLE, Int.reduceMul, Int.reduceAdd, Int.reduceSub, h0, h1, xa', xb', la, lb, faA14])
  refine Cl.pure (equalB_am a.dv b.dv xa ya _ (ra.same sm (fun _ _ _ _ _ x => x)) (rb.same sm (fun _ _ _ _ _ x => x)) hm) ?_
  cases hd : decide (xa = ya) with
  | false =>
    repeat (first | (with_reducible refine Wp.st ?_; simp only [wS]) | with_reducible refine Wp.drawS (by decide +kernel) ?_ | simp (disch := (first | (simp only [List.length_set, hl]; omega) | omega | rfl)) only [walkA, walkB, bne_self_eq_false, beq_self_eq_true, Option.map_some, Option.map_none, reduceIte, decide_true, decide_false, Int.reduceLT, Int.reduceLE, Int.reduceMul, Int.reduceAdd, Int.reduceSub, h0, h1])
    refine Wp.cond_true (by first | ((simp (disch := (first | (simp only [List.length_set, hl]; omega) | omega | rfl)) only [sL, aEval_tmp]); done) | ((simp (disch := (first | (simp only [List.length_set, hl]; omega) | omega | rfl)) only [sL, aEval_tmp]); rfl)) ?_
    repeat (first | (with_reducible refine Wp.st ?_; simp only [wS]) | with_reducible refine Wp.drawS (by decide +kernel) ?_ | simp (disch := (first | (simp only [List.length_set, hl]; omega) | omega | rfl)) only [walkA, walkB, bne_self_eq_false, beq_self_eq_true, Option.map_some, Option.map_none, reduceIte, decide_true, decide_false, Int.reduceLT, Int.reduceLE, Int.reduceMul, Int.reduceAdd, Int.reduceSub, h0])
    simp (disch := (first | (simp only [List.length_set, hl]; omega) | omega | rfl)) only [aRes_one Try.results15, sL]
    exact ⟨rfl, sm⟩
  | true =>
    rw [Bool.true_and]
    repeat (first | (with_reducible refine Wp.st ?_; simp only [wS]) | with_reducible refine Wp.drawS (by decide +kernel) ?_ | simp (disch := (first | (simp only [List.length_set, hl]; omega) | omega | rfl)) only [walkA, walkB, bne_self_eq_false, beq_self_eq_true, Option.map_some, Option.map_none, reduceIte, decide_true, decide_false, Int.reduceLT, Int.reduceLE, Int.reduceMul, Int.reduceAdd, Int.reduceSub, h0, h1])
    refine Wp.cond_false (by first | ((simp (disch := (first | (simp only [List.length_set, hl]; omega) | omega | rfl)) only [sL, aEval_tmp]); done) | ((simp (disch := (first | (simp only [List.length_set, hl]; omega) | omega | rfl)) only [sL, aEval_tmp]); rfl)) ?_
    have al1 := alArgs (h := h2)
    have al2 := alArgs (h := h2.push (.cells argsZ TA false))
    obtain ⟨h5, h6, h7, h8, st5, st6, st7, st8, g5, g6, s8⟩ := laidTwo (h := h2) lenA oneA lenB oneB
    repeat (first | (with_reducible refine Wp.st ?_; simp only [wS]) | with_reducible refine Wp.drawS (by decide +kernel) ?_ | simp (disch := (first | (simp only [List.length_set, hl]; omega) | omega | rfl)) only [walkA, walkB, bne_self_eq_false, beq_self_eq_true, Option.map_some, Option.map_none, reduceIte, decide_true, decide_false, Int.reduceLT, Int.reduceLE, Int.reduceMul, Int.reduceAdd, Int.reduceSub, h0, h1])
    with_reducible refine Wp.parU [0, 0, 0, 0, 13, 31] (by kernel_rfl) ?_
    repeat (simp (disch := (first | (simp only [List.length_set, hl]; omega) | omega | rfl)) only [WD_none, WD_guard, WDG_tt, WDG_ff, WDG_tf, WDG_ft, gval_some, nthD_zero, nthD_succ, WD1_move, WD1_assign, WD1_call, WD1_load, WD1_convert, WD1_fieldAddr, WD1_field, WD1_indexAddr, WD1_extract, WD1_binOp, WD1_unOp, WD1_builtin, WD1_slice2, WD1_slice1, WD1_nilCheck, WD1_pick, DPick_bool, DNil_ptr, DH_some, WDraw_nil, withH_val, aEval_tmp, aEval_const, aPut_some, aPut_none, List.length_set, List.map_cons, List.map_nil, sl_eq, sl_ne, cond_true, cond_false, bin_add, bin_sub, bin_eql, bin_neq, bin_lss, bin_leq, bin_gtr, bin_geq, bne_self_eq_false, beq_self_eq_true, un_not, Bool.not_true, Bool.not_false, wrap_i64, h0, h1, wa, wb, WD1_alloc, WD1_store, al1, al2, st5, st6, Option.map_some])
    refine ⟨?_, ?_⟩
    · simp only [List.reverse_cons, List.reverse_nil, List.nil_append, List.cons_append, AllP, parOneP, parTwoP, and_true, true_and]
      (simp (disch := (first | (simp only [List.length_set, hl]; omega) | omega | rfl)) only [sL, aEval_tmp])
      have ne : (h2.push (.cells argsZ TA false)).next ≠ h2.next := by show h2.next + 1 ≠ _; omega
      have le : h2.next ≤ (h2.push (.cells argsZ TA false)).next := by show _ ≤ h2.next + 1; omega
      exact ⟨⟨_, _, rfl, hka⟩, ⟨_, _, rfl, hkb⟩, ⟨_, _, rfl, Nat.le_refl _, .inr (by decide), .inr (by decide), .inl trivial, .inr ⟨_, _, rfl, ne⟩⟩, ⟨_, _, rfl, le, .inr (by decide), .inr (by decide), .inr ⟨_, _, rfl, ne.symm⟩, .inl trivial⟩⟩
    rw [AR.bare_cells] at g5 g6
    have ma := ldAR g5
    have mb := ldAR g6
    simp only [AR.bare] at ma mb
    have sm8 : Same h h8 noS := sm.trans s8 (fun _ x => x) (fun _ _ x => x)
    clear g5 g6 s8 sm la lb wa wb gb ga st5 st6 al1 al2 xa' xb' ra rb
    generalize h2.next = k5 at st7 ma ⊢
    generalize (h2.push (.cells argsZ TA false)).next = k6 at st8 mb ⊢
    cases e0 : (a.file.data.toList == b.file.data.toList)
    · skip
      repeat (first | (with_reducible refine Wp.st ?_; simp only [wS]) | with_reducible refine Wp.drawS (by decide +kernel) ?_ | simp (disch := (first | (simp only [List.length_set, hl]; omega) | omega | rfl)) only [walkA, walkB, bne_self_eq_false, beq_self_eq_true, Option.map_some, Option.map_none, reduceIte, decide_true, decide_false, Int.reduceLT, Int.reduceLE, Int.reduceMul, Int.reduceAdd, Int.reduceSub, List.append_eq, List.cons_append, List.nil_append, st7, st8, ma, mb, bin_str, bin_boolE, bin_time, bin_sattr, faA14, faA0, faA1, faA2, faA3, faA4, faA5, faA6, faA7, faA8, faA9, faA10, faA11, faA12, faA13, faA14, faA15, faA16, faA17, faA18, faA19, faA20, faA21, e0])
      simp (disch := (first | (simp only [List.length_set, hl]; omega) | omega | rfl)) only [aRes_one Try.results15, sL]
      exact ⟨by simp [AR.eqR, e0], sm8⟩
    cases e1 : (a.to.data.toList == b.to.data.toList)
    · skip
      repeat (first | (with_reducible refine Wp.st ?_; simp only [wS]) | with_reducible refine Wp.drawS (by decide +kernel) ?_ | simp (disch := (first | (simp only [List.length_set, hl]; omega) | omega | rfl)) only [walkA, walkB, bne_self_eq_false, beq_self_eq_true, Option.map_some, Option.map_none, reduceIte, decide_true, decide_false, Int.reduceLT, Int.reduceLE, Int.reduceMul, Int.reduceAdd, Int.reduceSub, List.append_eq, List.cons_append, List.nil_append, st7, st8, ma, mb, bin_str, bin_boolE, bin_time, bin_sattr, faA14, faA0, faA1, faA2, faA3, faA4, faA5, faA6, faA7, faA8, faA9, faA10, faA11, faA12, faA13, faA14, faA15, faA16, faA17, faA18, faA19, faA20, faA21, e0, e1])
      simp (disch := (first | (simp only [List.length_set, hl]; omega) | omega | rfl)) only [aRes_one Try.results15, sL]
      exact ⟨by simp [AR.eqR, e0, e1], sm8⟩
    cases e2 : (a.name.data.toList == b.name.data.toList)
    · skip
      repeat (first | (with_reducible refine Wp.st ?_; simp only [wS]) | with_reducible refine Wp.drawS (by decide +kernel) ?_ | simp (disch := (first | (simp only [List.length_set, hl]; omega) | omega | rfl)) only [walkA, walkB, bne_self_eq_false, beq_self_eq_true, Option.map_some, Option.map_none, reduceIte, decide_true, decide_false, Int.reduceLT, Int.reduceLE, Int.reduceMul, Int.reduceAdd, Int.reduceSub, List.append_eq, List.cons_append, List.nil_append, st7, st8, ma, mb, bin_str, bin_boolE, bin_time, bin_sattr, faA14, faA0, faA1, faA2, faA3, faA4, faA5, faA6, faA7, faA8, faA9, faA10, faA11, faA12, faA13, faA14, faA15, faA16, faA17, faA18, faA19, faA20, faA21, e0, e1, e2])
      simp (disch := (first | (simp only [List.length_set, hl]; omega) | omega | rfl)) only [aRes_one Try.results15, sL]
      exact ⟨by simp [AR.eqR, e0, e1, e2], sm8⟩
    cases e3 : (a.toName.data.toList == b.toName.data.toList)
    · skip
      repeat (first | (with_reducible refine Wp.st ?_; simp only [wS]) | with_reducible refine Wp.drawS (by decide +kernel) ?_ | simp (disch := (first | (simp only [List.length_set, hl]; omega) | omega | rfl)) only [walkA, walkB, bne_self_eq_false, beq_self_eq_true, Option.map_some, Option.map_none, reduceIte, decide_true, decide_false, Int.reduceLT, Int.reduceLE, Int.reduceMul, Int.reduceAdd, Int.reduceSub, List.append_eq, List.cons_append, List.nil_append, st7, st8, ma, mb, bin_str, bin_boolE, bin_time, bin_sattr, faA14, faA0, faA1, faA2, faA3, faA4, faA5, faA6, faA7, faA8, faA9, faA10, faA11, faA12, faA13, faA14, faA15, faA16, faA17, faA18, faA19, faA20, faA21, e0, e1, e2, e3])
      simp (disch := (first | (simp only [List.length_set, hl]; omega) | omega | rfl)) only [aRes_one Try.results15, sL]
      exact ⟨by simp [AR.eqR, e0, e1, e2, e3], sm8⟩
    cases e4 : (a.path.data.toList == b.path.data.toList)
    · skip
      repeat (first | (with_reducible refine Wp.st ?_; simp only [wS]) | with_reducible refine Wp.drawS (by decide +kernel) ?_ | simp (disch := (first | (simp only [List.length_set, hl]; omega) | omega | rfl)) only [walkA, walkB, bne_self_eq_false, beq_self_eq_true, Option.map_some, Option.map_none, reduceIte, decide_true, decide_false, Int.reduceLT, Int.reduceLE, Int.reduceMul, Int.reduceAdd, Int.reduceSub, List.append_eq, List.cons_append, List.nil_append, st7, st8, ma, mb, bin_str, bin_boolE, bin_time, bin_sattr, faA14, faA0, faA1, faA2, faA3, faA4, faA5, faA6, faA7, faA8, faA9, faA10, faA11, faA12, faA13, faA14, faA15, faA16, faA17, faA18, faA19, faA20, faA21, e0, e1, e2, e3, e4])
      simp (disch := (first | (simp only [List.length_set, hl]; omega) | omega | rfl)) only [aRes_one Try.results15, sL]
      exact ⟨by simp [AR.eqR, e0, e1, e2, e3, e4], sm8⟩
    cases e5 : a.set.eq b.set
    · skip
      repeat (first | (with_reducible refine Wp.st ?_; simp only [wS]) | with_reducible refine Wp.drawS (by decide +kernel) ?_ | simp (disch := (first | (simp only [List.length_set, hl]; omega) | omega | rfl)) only [walkA, walkB, bne_self_eq_false, beq_self_eq_true, Option.map_some, Option.map_none, reduceIte, decide_true, decide_false, Int.reduceLT, Int.reduceLE, Int.reduceMul, Int.reduceAdd, Int.reduceSub, List.append_eq, List.cons_append, List.nil_append, st7, st8, ma, mb, bin_str, bin_boolE, bin_time, bin_sattr, faA14, faA0, faA1, faA2, faA3, faA4, faA5, faA6, faA7, faA8, faA9, faA10, faA11, faA12, faA13, faA14, faA15, faA16, faA17, faA18, faA19, faA20, faA21, e0, e1, e2, e3, e4, e5])
      simp (disch := (first | (simp only [List.length_set, hl]; omega) | omega | rfl)) only [aRes_one Try.results15, sL]
      exact ⟨by simp [AR.eqR, e0, e1, e2, e3, e4, e5], sm8⟩
    cases e6 : (a.guard == b.guard)
    · skip
      repeat (first | (with_reducible refine Wp.st ?_; simp only [wS]) | with_reducible refine Wp.drawS (by decide +kernel) ?_ | simp (disch := (first | (simp only [List.length_set, hl]; omega) | omega | rfl)) only [walkA, walkB, bne_self_eq_false, beq_self_eq_true, Option.map_some, Option.map_none, reduceIte, decide_true, decide_false, Int.reduceLT, Int.reduceLE, Int.reduceMul, Int.reduceAdd, Int.reduceSub, List.append_eq, List.cons_append, List.nil_append, st7, st8, ma, mb, bin_str, bin_boolE, bin_time, bin_sattr, faA14, faA0, faA1, faA2, faA3, faA4, faA5, faA6, faA7, faA8, faA9, faA10, faA11, faA12, faA13, faA14, faA15, faA16, faA17, faA18, faA19, faA20, faA21, e0, e1, e2, e3, e4, e5, e6])
      simp (disch := (first | (simp only [List.length_set, hl]; omega) | omega | rfl)) only [aRes_one Try.results15, sL]
      exact ⟨by simp [AR.eqR, e0, e1, e2, e3, e4, e5, e6], sm8⟩
    cases e7 : eqT a.g1 a.g2 b.g1 b.g2
    · skip
      repeat (first | (with_reducible refine Wp.st ?_; simp only [wS]) | with_reducible refine Wp.drawS (by decide +kernel) ?_ | simp (disch := (first | (simp only [List.length_set, hl]; omega) | omega | rfl)) only [walkA, walkB, bne_self_eq_false, beq_self_eq_true, Option.map_some, Option.map_none, reduceIte, decide_true, decide_false, Int.reduceLT, Int.reduceLE, Int.reduceMul, Int.reduceAdd, Int.reduceSub, List.append_eq, List.cons_append, List.nil_append, st7, st8, ma, mb, bin_str, bin_boolE, bin_time, bin_sattr, faA14, faA0, faA1, faA2, faA3, faA4, faA5, faA6, faA7, faA8, faA9, faA10, faA11, faA12, faA13, faA14, faA15, faA16, faA17, faA18, faA19, faA20, faA21, e0, e1, e2, e3, e4, e5, e6, e7])
      simp (disch := (first | (simp only [List.length_set, hl]; omega) | omega | rfl)) only [aRes_one Try.results15, sL]
      exact ⟨by simp [AR.eqR, e0, e1, e2, e3, e4, e5, e6, e7], sm8⟩
    cases e8 : (a.access == b.access)
    · skip
      repeat (first | (with_reducible refine Wp.st ?_; simp only [wS]) | with_reducible refine Wp.drawS (by decide +kernel) ?_ | simp (disch := (first | (simp only [List.length_set, hl]; omega) | omega | rfl)) only [walkA, walkB, bne_self_eq_false, beq_self_eq_true, Option.map_some, Option.map_none, reduceIte, decide_true, decide_false, Int.reduceLT, Int.reduceLE, Int.reduceMul, Int.reduceAdd, Int.reduceSub, List.append_eq, List.cons_append, List.nil_append, st7, st8, ma, mb, bin_str, bin_boolE, bin_time, bin_sattr, faA14, faA0, faA1, faA2, faA3, faA4, faA5, faA6, faA7, faA8, faA9, faA10, faA11, faA12, faA13, faA14, faA15, faA16, faA17, faA18, faA19, faA20, faA21, e0, e1, e2, e3, e4, e5, e6, e7, e8])
      simp (disch := (first | (simp only [List.length_set, hl]; omega) | omega | rfl)) only [aRes_one Try.results15, sL]
      exact ⟨by simp [AR.eqR, e0, e1, e2, e3, e4, e5, e6, e7, e8], sm8⟩
    cases e9 : (a.offset == b.offset)
    · skip
      repeat (first | (with_reducible refine Wp.st ?_; simp only [wS]) | with_reducible refine Wp.drawS (by decide +kernel) ?_ | simp (disch := (first | (simp only [List.length_set, hl]; omega) | omega | rfl)) only [walkA, walkB, bne_self_eq_false, beq_self_eq_true, Option.map_some, Option.map_none, reduceIte, decide_true, decide_false, Int.reduceLT, Int.reduceLE, Int.reduceMul, Int.reduceAdd, Int.reduceSub, List.append_eq, List.cons_append, List.nil_append, st7, st8, ma, mb, bin_str, bin_boolE, bin_time, bin_sattr, faA14, faA0, faA1, faA2, faA3, faA4, faA5, faA6, faA7, faA8, faA9, faA10, faA11, faA12, faA13, faA14, faA15, faA16, faA17, faA18, faA19, faA20, faA21, e0, e1, e2, e3, e4, e5, e6, e7, e8, e9])
      simp (disch := (first | (simp only [List.length_set, hl]; omega) | omega | rfl)) only [aRes_one Try.results15, sL]
      exact ⟨by simp [AR.eqR, e0, e1, e2, e3, e4, e5, e6, e7, e8, e9], sm8⟩
    cases e10 : (a.count == b.count)
    · skip
      repeat (first | (with_reducible refine Wp.st ?_; simp only [wS]) | with_reducible refine Wp.drawS (by decide +kernel) ?_ | simp (disch := (first | (simp only [List.length_set, hl]; omega) | omega | rfl)) only [walkA, walkB, bne_self_eq_false, beq_self_eq_true, Option.map_some, Option.map_none, reduceIte, decide_true, decide_false, Int.reduceLT, Int.reduceLE, Int.reduceMul, Int.reduceAdd, Int.reduceSub, List.append_eq, List.cons_append, List.nil_append, st7, st8, ma, mb, bin_str, bin_boolE, bin_time, bin_sattr, faA14, faA0, faA1, faA2, faA3, faA4, faA5, faA6, faA7, faA8, faA9, faA10, faA11, faA12, faA13, faA14, faA15, faA16, faA17, faA18, faA19, faA20, faA21, e0, e1, e2, e3, e4, e5, e6, e7, e8, e9, e10])
      simp (disch := (first | (simp only [List.length_set, hl]; omega) | omega | rfl)) only [aRes_one Try.results15, sL]
      exact ⟨by simp [AR.eqR, e0, e1, e2, e3, e4, e5, e6, e7, e8, e9, e10], sm8⟩
    cases e11 : (a.stable == b.stable)
    · skip
      repeat (first | (with_reducible refine Wp.st ?_; simp only [wS]) | with_reducible refine Wp.drawS (by decide +kernel) ?_ | simp (disch := (first | (simp only [List.length_set, hl]; omega) | omega | rfl)) only [walkA, walkB, bne_self_eq_false, beq_self_eq_true, Option.map_some, Option.map_none, reduceIte, decide_true, decide_false, Int.reduceLT, Int.reduceLE, Int.reduceMul, Int.reduceAdd, Int.reduceSub, List.append_eq, List.cons_append, List.nil_append, st7, st8, ma, mb, bin_str, bin_boolE, bin_time, bin_sattr, faA14, faA0, faA1, faA2, faA3, faA4, faA5, faA6, faA7, faA8, faA9, faA10, faA11, faA12, faA13, faA14, faA15, faA16, faA17, faA18, faA19, faA20, faA21, e0, e1, e2, e3, e4, e5, e6, e7, e8, e9, e10, e11])
      simp (disch := (first | (simp only [List.length_set, hl]; omega) | omega | rfl)) only [aRes_one Try.results15, sL]
      exact ⟨by simp [AR.eqR, e0, e1, e2, e3, e4, e5, e6, e7, e8, e9, e10, e11], sm8⟩
    cases e12 : (a.mode == b.mode)
    · skip
      repeat (first | (with_reducible refine Wp.st ?_; simp only [wS]) | with_reducible refine Wp.drawS (by decide +kernel) ?_ | simp (disch := (first | (simp only [List.length_set, hl]; omega) | omega | rfl)) only [walkA, walkB, bne_self_eq_false, beq_self_eq_true, Option.map_some, Option.map_none, reduceIte, decide_true, decide_false, Int.reduceLT, Int.reduceLE, Int.reduceMul, Int.reduceAdd, Int.reduceSub, List.append_eq, List.cons_append, List.nil_append, st7, st8, ma, mb, bin_str, bin_boolE, bin_time, bin_sattr, faA14, faA0, faA1, faA2, faA3, faA4, faA5, faA6, faA7, faA8, faA9, faA10, faA11, faA12, faA13, faA14, faA15, faA16, faA17, faA18, faA19, faA20, faA21, e0, e1, e2, e3, e4, e5, e6, e7, e8, e9, e10, e11, e12])
      simp (disch := (first | (simp only [List.length_set, hl]; omega) | omega | rfl)) only [aRes_one Try.results15, sL]
      exact ⟨by simp [AR.eqR, e0, e1, e2, e3, e4, e5, e6, e7, e8, e9, e10, e11, e12], sm8⟩
    cases e13 : (a.type == b.type)
    · skip
      repeat (first | (with_reducible refine Wp.st ?_; simp only [wS]) | with_reducible refine Wp.drawS (by decide +kernel) ?_ | simp (disch := (first | (simp only [List.length_set, hl]; omega) | omega | rfl)) only [walkA, walkB, bne_self_eq_false, beq_self_eq_true, Option.map_some, Option.map_none, reduceIte, decide_true, decide_false, Int.reduceLT, Int.reduceLE, Int.reduceMul, Int.reduceAdd, Int.reduceSub, List.append_eq, List.cons_append, List.nil_append, st7, st8, ma, mb, bin_str, bin_boolE, bin_time, bin_sattr, faA14, faA0, faA1, faA2, faA3, faA4, faA5, faA6, faA7, faA8, faA9, faA10, faA11, faA12, faA13, faA14, faA15, faA16, faA17, faA18, faA19, faA20, faA21, e0, e1, e2, e3, e4, e5, e6, e7, e8, e9, e10, e11, e12, e13])
      simp (disch := (first | (simp only [List.length_set, hl]; omega) | omega | rfl)) only [aRes_one Try.results15, sL]
      exact ⟨by simp [AR.eqR, e0, e1, e2, e3, e4, e5, e6, e7, e8, e9, e10, e11, e12, e13], sm8⟩
    cases e14 : (a.verf == b.verf)
    · skip
      repeat (first | (with_reducible refine Wp.st ?_; simp only [wS]) | with_reducible refine Wp.drawS (by decide +kernel) ?_ | simp (disch := (first | (simp only [List.length_set, hl]; omega) | omega | rfl)) only [walkA, walkB, bne_self_eq_false, beq_self_eq_true, Option.map_some, Option.map_none, reduceIte, decide_true, decide_false, Int.reduceLT, Int.reduceLE, Int.reduceMul, Int.reduceAdd, Int.reduceSub, List.append_eq, List.cons_append, List.nil_append, st7, st8, ma, mb, bin_str, bin_boolE, bin_time, bin_sattr, faA14, faA0, faA1, faA2, faA3, faA4, faA5, faA6, faA7, faA8, faA9, faA10, faA11, faA12, faA13, faA14, faA15, faA16, faA17, faA18, faA19, faA20, faA21, e0, e1, e2, e3, e4, e5, e6, e7, e8, e9, e10, e11, e12, e13, e14])
      simp (disch := (first | (simp only [List.length_set, hl]; omega) | omega | rfl)) only [aRes_one Try.results15, sL]
      exact ⟨by simp [AR.eqR, e0, e1, e2, e3, e4, e5, e6, e7, e8, e9, e10, e11, e12, e13, e14], sm8⟩
    cases e15 : (a.cookie == b.cookie)
    · skip
      repeat (first | (with_reducible refine Wp.st ?_; simp only [wS]) | with_reducible refine Wp.drawS (by decide +kernel) ?_ | simp (disch := (first | (simp only [List.length_set, hl]; omega) | omega | rfl)) only [walkA, walkB, bne_self_eq_false, beq_self_eq_true, Option.map_some, Option.map_none, reduceIte, decide_true, decide_false, Int.reduceLT, Int.reduceLE, Int.reduceMul, Int.reduceAdd, Int.reduceSub, List.append_eq, List.cons_append, List.nil_append, st7, st8, ma, mb, bin_str, bin_boolE, bin_time, bin_sattr, faA14, faA0, faA1, faA2, faA3, faA4, faA5, faA6, faA7, faA8, faA9, faA10, faA11, faA12, faA13, faA14, faA15, faA16, faA17, faA18, faA19, faA20, faA21, e0, e1, e2, e3, e4, e5, e6, e7, e8, e9, e10, e11, e12, e13, e14, e15])
      simp (disch := (first | (simp only [List.length_set, hl]; omega) | omega | rfl)) only [aRes_one Try.results15, sL]
      exact ⟨by simp [AR.eqR, e0, e1, e2, e3, e4, e5, e6, e7, e8, e9, e10, e11, e12, e13, e14, e15], sm8⟩
    cases e16 : (a.cookieVerf == b.cookieVerf)
    · skip
      repeat (first | (with_reducible refine Wp.st ?_; simp only [wS]) | with_reducible refine Wp.drawS (by decide +kernel) ?_ | simp (disch := (first | (simp only [List.length_set, hl]; omega) | omega | rfl)) only [walkA, walkB, bne_self_eq_false, beq_self_eq_true, Option.map_some, Option.map_none, reduceIte, decide_true, decide_false, Int.reduceLT, Int.reduceLE, Int.reduceMul, Int.reduceAdd, Int.reduceSub, List.append_eq, List.cons_append, List.nil_append, st7, st8, ma, mb, bin_str, bin_boolE, bin_time, bin_sattr, faA14, faA0, faA1, faA2, faA3, faA4, faA5, faA6, faA7, faA8, faA9, faA10, faA11, faA12, faA13, faA14, faA15, faA16, faA17, faA18, faA19, faA20, faA21, e0, e1, e2, e3, e4, e5, e6, e7, e8, e9, e10, e11, e12, e13, e14, e15, e16])
      simp (disch := (first | (simp only [List.length_set, hl]; omega) | omega | rfl)) only [aRes_one Try.results15, sL]
      exact ⟨by simp [AR.eqR, e0, e1, e2, e3, e4, e5, e6, e7, e8, e9, e10, e11, e12, e13, e14, e15, e16], sm8⟩
    cases e17 : (a.dirCount == b.dirCount)
    · skip
      repeat (first | (with_reducible refine Wp.st ?_; simp only [wS]) | with_reducible refine Wp.drawS (by decide +kernel) ?_ | simp (disch := (first | (simp only [List.length_set, hl]; omega) | omega | rfl)) only [walkA, walkB, bne_self_eq_false, beq_self_eq_true, Option.map_some, Option.map_none, reduceIte, decide_true, decide_false, Int.reduceLT, Int.reduceLE, Int.reduceMul, Int.reduceAdd, Int.reduceSub, List.append_eq, List.cons_append, List.nil_append, st7, st8, ma, mb, bin_str, bin_boolE, bin_time, bin_sattr, faA14, faA0, faA1, faA2, faA3, faA4, faA5, faA6, faA7, faA8, faA9, faA10, faA11, faA12, faA13, faA14, faA15, faA16, faA17, faA18, faA19, faA20, faA21, e0, e1, e2, e3, e4, e5, e6, e7, e8, e9, e10, e11, e12, e13, e14, e15, e16, e17])
      simp (disch := (first | (simp only [List.length_set, hl]; omega) | omega | rfl)) only [aRes_one Try.results15, sL]
      exact ⟨by simp [AR.eqR, e0, e1, e2, e3, e4, e5, e6, e7, e8, e9, e10, e11, e12, e13, e14, e15, e16, e17], sm8⟩
    cases e18 : (a.maxCount == b.maxCount)
    · skip
      repeat (first | (with_reducible refine Wp.st ?_; simp only [wS]) | with_reducible refine Wp.drawS (by decide +kernel) ?_ | simp (disch := (first | (simp only [List.length_set, hl]; omega) | omega | rfl)) only [walkA, walkB, bne_self_eq_false, beq_self_eq_true, Option.map_some, Option.map_none, reduceIte, decide_true, decide_false, Int.reduceLT, Int.reduceLE, Int.reduceMul, Int.reduceAdd, Int.reduceSub, List.append_eq, List.cons_append, List.nil_append, st7, st8, ma, mb, bin_str, bin_boolE, bin_time, bin_sattr, faA14, faA0, faA1, faA2, faA3, faA4, faA5, faA6, faA7, faA8, faA9, faA10, faA11, faA12, faA13, faA14, faA15, faA16, faA17, faA18, faA19, faA20, faA21, e0, e1, e2, e3, e4, e5, e6, e7, e8, e9, e10, e11, e12, e13, e14, e15, e16, e17, e18])
      simp (disch := (first | (simp only [List.length_set, hl]; omega) | omega | rfl)) only [aRes_one Try.results15, sL]
      exact ⟨by simp [AR.eqR, e0, e1, e2, e3, e4, e5, e6, e7, e8, e9, e10, e11, e12, e13, e14, e15, e16, e17, e18], sm8⟩
    cases e19 : (a.spec1 == b.spec1)
    · skip
      repeat (first | (with_reducible refine Wp.st ?_; simp only [wS]) | with_reducible refine Wp.drawS (by decide +kernel) ?_ | simp (disch := (first | (simp only [List.length_set, hl]; omega) | omega | rfl)) only [walkA, walkB, bne_self_eq_false, beq_self_eq_true, Option.map_some, Option.map_none, reduceIte, decide_true, decide_false, Int.reduceLT, Int.reduceLE, Int.reduceMul, Int.reduceAdd, Int.reduceSub, List.append_eq, List.cons_append, List.nil_append, st7, st8, ma, mb, bin_str, bin_boolE, bin_time, bin_sattr, faA14, faA0, faA1, faA2, faA3, faA4, faA5, faA6, faA7, faA8, faA9, faA10, faA11, faA12, faA13, faA14, faA15, faA16, faA17, faA18, faA19, faA20, faA21, e0, e1, e2, e3, e4, e5, e6, e7, e8, e9, e10, e11, e12, e13, e14, e15, e16, e17, e18, e19])
      simp (disch := (first | (simp only [List.length_set, hl]; omega) | omega | rfl)) only [aRes_one Try.results15, sL]
      exact ⟨by simp [AR.eqR, e0, e1, e2, e3, e4, e5, e6, e7, e8, e9, e10, e11, e12, e13, e14, e15, e16, e17, e18, e19], sm8⟩
    cases e20 : (a.spec2 == b.spec2)
    · skip
      repeat (first | (with_reducible refine Wp.st ?_; simp only [wS]) | with_reducible refine Wp.drawS (by decide +kernel) ?_ | simp (disch := (first | (simp only [List.length_set, hl]; omega) | omega | rfl)) only [walkA, walkB, bne_self_eq_false, beq_self_eq_true, Option.map_some, Option.map_none, reduceIte, decide_true, decide_false, Int.reduceLT, Int.reduceLE, Int.reduceMul, Int.reduceAdd, Int.reduceSub, List.append_eq, List.cons_append, List.nil_append, st7, st8, ma, mb, bin_str, bin_boolE, bin_time, bin_sattr, faA14, faA0, faA1, faA2, faA3, faA4, faA5, faA6, faA7, faA8, faA9, faA10, faA11, faA12, faA13, faA14, faA15, faA16, faA17, faA18, faA19, faA20, faA21, e0, e1, e2, e3, e4, e5, e6, e7, e8, e9, e10, e11, e12, e13, e14, e15, e16, e17, e18, e19, e20])
      simp (disch := (first | (simp only [List.length_set, hl]; omega) | omega | rfl)) only [aRes_one Try.results15, sL]
      exact ⟨by simp [AR.eqR, e0, e1, e2, e3, e4, e5, e6, e7, e8, e9, e10, e11, e12, e13, e14, e15, e16, e17, e18, e19, e20], sm8⟩
    repeat (first | (with_reducible refine Wp.st ?_; simp only [wS]) | with_reducible refine Wp.drawS (by decide +kernel) ?_ | simp (disch := (first | (simp only [List.length_set, hl]; omega) | omega | rfl)) only [walkA, walkB, bne_self_eq_false, beq_self_eq_true, Option.map_some, Option.map_none, reduceIte, decide_true, decide_false, Int.reduceLT, Int.reduceLE, Int.reduceMul, Int.reduceAdd, Int.reduceSub, List.append_eq, List.cons_append, List.nil_append, st7, st8, ma, mb, bin_str, bin_boolE, bin_time, bin_sattr, faA14, faA0, faA1, faA2, faA3, faA4, faA5, faA6, faA7, faA8, faA9, faA10, faA11, faA12, faA13, faA14, faA15, faA16, faA17, faA18, faA19, faA20, faA21, e0, e1, e2, e3, e4, e5, e6, e7, e8, e9, e10, e11, e12, e13, e14, e15, e16, e17, e18, e19, e20])
    simp (disch := (first | (simp only [List.length_set, hl]; omega) | omega | rfl)) only [aRes_one Try.results15, sL]
    exact ⟨by simp [AR.eqR, e0, e1, e2, e3, e4, e5, e6, e7, e8, e9, e10, e11, e12, e13, e14, e15, e16, e17, e18, e19, e20], sm8⟩
end Go.Proofs.Ytanknjpcgceccaa

namespace Go.Proofs.Ytanknjpcgceccaa
open Go Go.AM
set_option linter.unusedSimpArgs false
set_option maxRecDepth 100000
attribute [local irreducible] WOps WV WH WSt WNil WPick WGd
theorem strB_ints (s : ByteArray) : strB s = (s.data.toList.map fun b => (b.toNat : Int)).map (Value.int .u8) := by
  unfold strB
  rw [List.map_map]
  rfl
theorem AR.eq_of (a b : AR) {xa ya : List Int} (ea : a.data = xa.map (Value.int .u8)) (eb : b.data = ya.map (Value.int .u8)) (sa : ∃ s, a.data = strB s) (sb : ∃ s, b.data = strB s) : (decide (xa = ya) && a.eqR b) = a.eq b := by
  rw [dec_dat ea eb sa sb]
  unfold AR.eqR AR.eq
  ac_rfl
theorem AR.eq_refl (a : AR) : a.eq a = true := AR.eq_dv a a.dv a.dv
theorem AT.eq_refl (x : AT) : x.eq x = true := by simp [AT.eq, eqT]
theorem PO.eq_refl (x : PO) : x.eq x = true := by simp [PO.eq, AT.eq_refl]
theorem WC.eq_refl (x : WC) : x.eq x = true := by simp [WC.eq, eqT]
theorem EN.eq_refl (x : EN) : x.eq x = true := by simp [EN.eq, PO.eq_refl]
theorem enEq_refl : ∀ l : List EN, enEq l l = true
  | [] => rfl
  | x :: l => by simp [enEq, EN.eq_refl, enEq_refl l]
theorem RR.eq_refl (x : RR) : x.eq x = true := by simp [RR.eq, PO.eq_refl, WC.eq_refl, enEq_refl]
theorem boxed {h : Heap} {T : TypeId} {vs : List Value} (h1 : vs.all Value.oneCell' = true) : ∃ k h', aBox h T (.agg vs.toArray) = some (pt k 0, h') ∧ h'.get k = some (.cells vs T false) ∧ Same h h' noS :=
  ⟨h.next, h.push (.cells vs T false), by simp [aBox, aNew, Value.cells, h1], Heap.get_push_new, Same.push _ _ _⟩
theorem all2_refl {f : Value → Value → Bool} : ∀ l : List Value, (∀ x ∈ l, f x x = true) → all2 f l l = true
  | [], _ => rfl
  | x :: l, h => by
    simp only [all2, h x (by simp), Bool.true_and]
    exact all2_refl l (fun y hy => h y (by simp [hy]))
theorem veqB_agg (l : List Value) (h : ∀ x ∈ l, veqB 5 x x = true) : veqB 6 (.agg l.toArray) (.agg l.toArray) = true := by
  simp only [veqB]
  exact all2_refl l h
theorem veqB_AR (a : AR) (h : ∃ x n c, a.dv = .slice x n c) : veqB 6 (.agg a.cells.toArray) (.agg a.cells.toArray) = true := by
  obtain ⟨x, n, c, e⟩ := h
  exact veqB_agg _ (by simp [AR.cells, SA.cells, veqB, e])
theorem veqB_RR (a : RR) (h : ∃ x n c, a.dv = .slice x n c) (h2 : ∃ x n c, a.ev = .slice x n c) : veqB 6 (.agg a.cells.toArray) (.agg a.cells.toArray) = true := by
  obtain ⟨x, n, c, e⟩ := h
  obtain ⟨y, m, d, f⟩ := h2
  exact veqB_agg _ (by simp [RR.cells, PO.cells, AT.cells, WC.cells, veqB, e, f])
theorem ldRes {h : Heap} {k : Nat} {a : RR} (hg : h.get k = some (.cells a.cells TRes false)) : aLoad Try.prog h 42 (pt k 0) = some (.agg a.cells.toArray) :=
  ldAgg hg Try.underlying42 iRes (by show 0 + 88 ≤ _; rw [a.len]; decide) (by show (a.cells.drop 0).take 88 = _; rw [List.drop_zero, List.take_of_length_le (by rw [a.len]; decide)])
set_option maxHeartbeats 4000000 in
theorem nfsxSame_am (a b : AR) (r s : RR) (h : Heap) (wa : a.WF) (wb : b.WF) (wr : r.WF) (ws : s.WF) (ra : Row h a.dv a.data) (rb : Row h b.dv b.data) (ma : a.data.length ≤ 9223372036854775807)
    (rr : Row h r.dv r.data) (rs : Row h s.dv s.data) (er : RowS h 20 r.ev (r.ents.map EN.cells)) (es : RowS h 20 s.ev (s.ents.map EN.cells)) :
    Cl Try.prog 4 [.agg a.cells.toArray, .agg b.cells.toArray, .agg r.cells.toArray, .agg s.cells.toArray] h fun v _ => v = .bool true := by
  refine Cl.enter Try.func4 rfl _ Try.ntmps4 (by simp) ?_
  intro env hl ha
  have h0 : sl env 0 = .agg a.cells.toArray := ha 0 (by simp)
  have h1 : sl env 1 = .agg b.cells.toArray := ha 1 (by simp)
  have h2 : sl env 2 = .agg r.cells.toArray := ha 2 (by simp)
  have h3 : sl env 3 = .agg s.cells.toArray := ha 3 (by simp)
  clear ha
  obtain ⟨ta, eta⟩ := wa.dStr
  obtain ⟨tb, etb⟩ := wb.dStr
  obtain ⟨tr, etr⟩ := wr.dStr
  obtain ⟨ts, ets⟩ := ws.dStr
  have ea := eta.trans (strB_ints ta)
  have eb := etb.trans (strB_ints tb)
  have eR := etr.trans (strB_ints tr)
  have eS := ets.trans (strB_ints ts)
  generalize (ta.data.toList.map fun b => (b.toNat : Int)) = xa at ea
  generalize (tb.data.toList.map fun b => (b.toNat : Int)) = xb at eb
  generalize (tr.data.toList.map fun b => (b.toNat : Int)) = xr at eR
  generalize (ts.data.toList.map fun b => (b.toNat : Int)) = xs at eS
  have lxa : xa.length ≤ 9223372036854775807 := by rw [ea, List.length_map] at ma; exact ma
  have lxr : xr.length ≤ 9223372036854775807 := by have := wr.dMax; rw [eR, List.length_map] at this; exact this
  have lxs : xs.length ≤ 9223372036854775807 := by have := ws.dMax; rw [eS, List.length_map] at this; exact this
  have oneA : a.cells.all Value.oneCell' = true := by obtain ⟨x, n, c, e⟩ := wa.dSl; simp [AR.cells, SA.cells, Value.oneCell', e]
  have oneB : b.cells.all Value.oneCell' = true := by obtain ⟨x, n, c, e⟩ := wb.dSl; simp [AR.cells, SA.cells, Value.oneCell', e]
  obtain ⟨ka, hA, bxa, ga, s1⟩ := boxed (h := h) (T := TA) oneA
  obtain ⟨kb, hB, bxb, gb, s2⟩ := boxed (h := hA) (T := TA) oneB
  obtain ⟨kr, hR, bxr, gr, s3⟩ := boxed (h := hB) (T := TRes) (r.one wr.dSl wr.eSl)
  obtain ⟨ks, hS, bxs, gs, s4⟩ := boxed (h := hR) (T := TRes) (s.one ws.dSl ws.eSl)
  replace gr := s4.got gr
  replace gb := s4.got (s3.got gb)
  replace ga := s4.got (s3.got (s2.got ga))
  have s0 : Same h hS noS := ((s1.tr s2).tr s3).tr s4
  have sA : ∃ t, a.data = strB t := ⟨ta, eta⟩
  have sB : ∃ t, b.data = strB t := ⟨tb, etb⟩
  have sR : ∃ t, r.data = strB t := ⟨tr, etr⟩
  have sS : ∃ t, s.data = strB t := ⟨ts, ets⟩
  have iA : isB a.data := by rw [eta]; exact isB_str ta
  have iB : isB b.data := by rw [etb]; exact isB_str tb
  have iR : isB r.data := by rw [etr]; exact isB_str tr
  have iS : isB s.data := by rw [ets]; exact isB_str ts
  clear s1 s2 s3 s4
  repeat (first | (with_reducible refine Wp.st ?_; simp only [wS]) | with_reducible refine Wp.drawS (by decide +kernel) ?_ | simp (disch := (first | (simp only [List.length_set, hl]; omega) | omega | rfl)) only [walkA, walkB, bne_self_eq_false, beq_self_eq_true, Option.map_some, Option.map_none, reduceIte, decide_true, decide_false, Int.reduceLT, Int.reduceLE, Int.reduceMul, Int.reduceAdd, Int.reduceSub, h0, h1, h2, h3, bxa, bxb, bxr, bxs])
  with_reducible refine Wp.drawU [(5, 4), (6, 4), (19, 18), (20, 18)] (by kernel_rfl) ?_
  repeat (simp (disch := (first | (simp only [List.length_set, hl]; omega) | omega | rfl)) only [WD_none, WD_guard, WDG_tt, WDG_ff, WDG_tf, WDG_ft, gval_some, nthD_zero, nthD_succ, WD1_move, WD1_assign, WD1_call, WD1_load, WD1_convert, WD1_fieldAddr, WD1_field, WD1_indexAddr, WD1_extract, WD1_binOp, WD1_unOp, WD1_builtin, WD1_slice2, WD1_slice1, WD1_nilCheck, WD1_pick, DPick_bool, DNil_ptr, DH_some, WDraw_nil, withH_val, aEval_tmp, aEval_const, aPut_some, aPut_none, List.length_set, List.map_cons, List.map_nil, sl_eq, sl_ne, cond_true, cond_false, bin_add, bin_sub, bin_eql, bin_neq, bin_lss, bin_leq, bin_gtr, bin_geq, bne_self_eq_false, beq_self_eq_true, un_not, Bool.not_true, Bool.not_false, wrap_i64, h0])
  refine (known_am _).mono ?_
  intro v hK q
  rw [q.1]
  replace s0 := s0.tr q.2
  replace ga := q.2.got ga; replace gb := q.2.got gb; replace gr := q.2.got gr; replace gs := q.2.got gs
  clear q
  have la1 := ldArgs ga a.len
  have lb1 := ldArgs gb b.len
  repeat (simp (disch := (first | (simp only [List.length_set, hl]; omega) | omega | rfl)) only [WD_none, WD_guard, WDG_tt, WDG_ff, WDG_tf, WDG_ft, gval_some, nthD_zero, nthD_succ, WD1_move, WD1_assign, WD1_call, WD1_load, WD1_convert, WD1_fieldAddr, WD1_field, WD1_indexAddr, WD1_extract, WD1_binOp, WD1_unOp, WD1_builtin, WD1_slice2, WD1_slice1, WD1_nilCheck, WD1_pick, DPick_bool, DNil_ptr, DH_some, WDraw_nil, withH_val, aEval_tmp, aEval_const, aPut_some, aPut_none, List.length_set, List.map_cons, List.map_nil, sl_eq, sl_ne, cond_true, cond_false, bin_add, bin_sub, bin_eql, bin_neq, bin_lss, bin_leq, bin_gtr, bin_geq, bne_self_eq_false, beq_self_eq_true, un_not, Bool.not_true, Bool.not_false, wrap_i64, la1, lb1])
  refine (sameArgs_am a b xa xb _ wa.dSl wb.dSl ea eb (ra.on s0) (rb.on s0) lxa).mono ?_
  intro v hL q
  rw [q.1, AR.eq_of a b ea eb sA sB]
  replace s0 := s0.tr q.2
  replace ga := q.2.got ga; replace gb := q.2.got gb; replace gr := q.2.got gr; replace gs := q.2.got gs
  clear q
  have la2 := ldArgs ga a.len
  have lb2 := ldArgs gb b.len
  repeat (simp (disch := (first | (simp only [List.length_set, hl]; omega) | omega | rfl)) only [WD_none, WD_guard, WDG_tt, WDG_ff, WDG_tf, WDG_ft, gval_some, nthD_zero, nthD_succ, WD1_move, WD1_assign, WD1_call, WD1_load, WD1_convert, WD1_fieldAddr, WD1_field, WD1_indexAddr, WD1_extract, WD1_binOp, WD1_unOp, WD1_builtin, WD1_slice2, WD1_slice1, WD1_nilCheck, WD1_pick, DPick_bool, DNil_ptr, DH_some, WDraw_nil, withH_val, aEval_tmp, aEval_const, aPut_some, aPut_none, List.length_set, List.map_cons, List.map_nil, sl_eq, sl_ne, cond_true, cond_false, bin_add, bin_sub, bin_eql, bin_neq, bin_lss, bin_leq, bin_gtr, bin_geq, bne_self_eq_false, beq_self_eq_true, un_not, Bool.not_true, Bool.not_false, wrap_i64, la2, lb2])
  refine (sameArgsX_am a b _ wa.dSl wb.dSl (ra.on s0) (rb.on s0) iA iB).mono ?_
  intro v hM q
  rw [q.1]
  replace s0 := s0.tr q.2
  replace ga := q.2.got ga; replace gb := q.2.got gb; replace gr := q.2.got gr; replace gs := q.2.got gs
  clear q
  have la3 := ldArgs ga a.len
  repeat (simp (disch := (first | (simp only [List.length_set, hl]; omega) | omega | rfl)) only [WD_none, WD_guard, WDG_tt, WDG_ff, WDG_tf, WDG_ft, gval_some, nthD_zero, nthD_succ, WD1_move, WD1_assign, WD1_call, WD1_load, WD1_convert, WD1_fieldAddr, WD1_field, WD1_indexAddr, WD1_extract, WD1_binOp, WD1_unOp, WD1_builtin, WD1_slice2, WD1_slice1, WD1_nilCheck, WD1_pick, DPick_bool, DNil_ptr, DH_some, WDraw_nil, withH_val, aEval_tmp, aEval_const, aPut_some, aPut_none, List.length_set, List.map_cons, List.map_nil, sl_eq, sl_ne, cond_true, cond_false, bin_add, bin_sub, bin_eql, bin_neq, bin_lss, bin_leq, bin_gtr, bin_geq, bne_self_eq_false, beq_self_eq_true, un_not, Bool.not_true, Bool.not_false, wrap_i64, la3, bin_boolE])
  refine (sameArgs_am a a xa xa _ wa.dSl wa.dSl ea ea (ra.on s0) (ra.on s0) lxa).mono ?_
  intro v hN q
  rw [q.1, AR.eq_of a a ea ea sA sA, AR.eq_refl]
  replace s0 := s0.tr q.2
  replace gr := q.2.got gr; replace gs := q.2.got gs
  clear q ga gb
  have lr1 := ldRes gr
  have ls1 := ldRes gs
  repeat (simp (disch := (first | (simp only [List.length_set, hl]; omega) | omega | rfl)) only [WD_none, WD_guard, WDG_tt, WDG_ff, WDG_tf, WDG_ft, gval_some, nthD_zero, nthD_succ, WD1_move, WD1_assign, WD1_call, WD1_load, WD1_convert, WD1_fieldAddr, WD1_field, WD1_indexAddr, WD1_extract, WD1_binOp, WD1_unOp, WD1_builtin, WD1_slice2, WD1_slice1, WD1_nilCheck, WD1_pick, DPick_bool, DNil_ptr, DH_some, WDraw_nil, withH_val, aEval_tmp, aEval_const, aPut_some, aPut_none, List.length_set, List.map_cons, List.map_nil, sl_eq, sl_ne, cond_true, cond_false, bin_add, bin_sub, bin_eql, bin_neq, bin_lss, bin_leq, bin_gtr, bin_geq, bne_self_eq_false, beq_self_eq_true, un_not, Bool.not_true, Bool.not_false, wrap_i64, lr1, ls1])
  refine (sameRes_am r s xr xs _ wr.dSl wr.eSl ws.dSl ws.eSl (rr.on s0) (rs.on s0) (er.same s0 (fun _ _ _ _ _ x => x)) (es.same s0 (fun _ _ _ _ _ x => x)) eR eS sR sS lxr wr.eMax).mono ?_
  intro v hO q
  rw [q.1]
  replace s0 := s0.tr q.2
  replace gr := q.2.got gr; replace gs := q.2.got gs
  clear q
  have lr2 := ldRes gr
  have ls2 := ldRes gs
  repeat (simp (disch := (first | (simp only [List.length_set, hl]; omega) | omega | rfl)) only [WD_none, WD_guard, WDG_tt, WDG_ff, WDG_tf, WDG_ft, gval_some, nthD_zero, nthD_succ, WD1_move, WD1_assign, WD1_call, WD1_load, WD1_convert, WD1_fieldAddr, WD1_field, WD1_indexAddr, WD1_extract, WD1_binOp, WD1_unOp, WD1_builtin, WD1_slice2, WD1_slice1, WD1_nilCheck, WD1_pick, DPick_bool, DNil_ptr, DH_some, WDraw_nil, withH_val, aEval_tmp, aEval_const, aPut_some, aPut_none, List.length_set, List.map_cons, List.map_nil, sl_eq, sl_ne, cond_true, cond_false, bin_add, bin_sub, bin_eql, bin_neq, bin_lss, bin_leq, bin_gtr, bin_geq, bne_self_eq_false, beq_self_eq_true, un_not, Bool.not_true, Bool.not_false, wrap_i64, lr2, ls2])
  refine (sameResX_am r s _ wr.dSl wr.eSl ws.dSl ws.eSl (rr.on s0) (rs.on s0) (er.same s0 (fun _ _ _ _ _ x => x)) (es.same s0 (fun _ _ _ _ _ x => x)) iR iS wr.eMax).mono ?_
  intro v hP q
  rw [q.1]
  replace s0 := s0.tr q.2
  replace gs := q.2.got gs
  clear q gr
  have ls3 := ldRes gs
  repeat (simp (disch := (first | (simp only [List.length_set, hl]; omega) | omega | rfl)) only [WD_none, WD_guard, WDG_tt, WDG_ff, WDG_tf, WDG_ft, gval_some, nthD_zero, nthD_succ, WD1_move, WD1_assign, WD1_call, WD1_load, WD1_convert, WD1_fieldAddr, WD1_field, WD1_indexAddr, WD1_extract, WD1_binOp, WD1_unOp, WD1_builtin, WD1_slice2, WD1_slice1, WD1_nilCheck, WD1_pick, DPick_bool, DNil_ptr, DH_some, WDraw_nil, withH_val, aEval_tmp, aEval_const, aPut_some, aPut_none, List.length_set, List.map_cons, List.map_nil, sl_eq, sl_ne, cond_true, cond_false, bin_add, bin_sub, bin_eql, bin_neq, bin_lss, bin_leq, bin_gtr, bin_geq, bne_self_eq_false, beq_self_eq_true, un_not, Bool.not_true, Bool.not_false, wrap_i64, ls3, bin_boolE])
  refine (sameRes_am s s xs xs _ ws.dSl ws.eSl ws.dSl ws.eSl (rs.on s0) (rs.on s0) (es.same s0 (fun _ _ _ _ _ x => x)) (es.same s0 (fun _ _ _ _ _ x => x)) eS eS sS sS lxs ws.eMax).mono ?_
  intro v hQ q
  rw [q.1, RR.eq_refl]
  clear q
  repeat (simp (disch := (first | (simp only [List.length_set, hl]; omega) | omega | rfl)) only [WD_none, WD_guard, WDG_tt, WDG_ff, WDG_tf, WDG_ft, gval_some, nthD_zero, nthD_succ, WD1_move, WD1_assign, WD1_call, WD1_load, WD1_convert, WD1_fieldAddr, WD1_field, WD1_indexAddr, WD1_extract, WD1_binOp, WD1_unOp, WD1_builtin, WD1_slice2, WD1_slice1, WD1_nilCheck, WD1_pick, DPick_bool, DNil_ptr, DH_some, WDraw_nil, withH_val, aEval_tmp, aEval_const, aPut_some, aPut_none, List.length_set, List.map_cons, List.map_nil, sl_eq, sl_ne, cond_true, cond_false, bin_add, bin_sub, bin_eql, bin_neq, bin_lss, bin_leq, bin_gtr, bin_geq, bne_self_eq_false, beq_self_eq_true, un_not, Bool.not_true, Bool.not_false, wrap_i64])
  refine ⟨?_, ?_⟩
  · simp only [okPair, List.reverse_cons, List.reverse_nil, List.nil_append, List.cons_append, List.getElem?_cons_zero, List.getElem?_cons_succ, List.mem_cons, List.not_mem_nil, or_false, forall_eq_or_imp, forall_eq, Nat.blt_eq, blt_true, blt_false, cond_true, cond_false, Bool.true_eq_false, Bool.false_eq_true, false_or]
    refine ⟨sameAt_load ?_ (veqB_AR a wa.dSl), sameAt_load ?_ (veqB_AR b wb.dSl), sameAt_load ?_ (veqB_RR r wr.dSl wr.eSl), sameAt_load ?_ (veqB_RR s ws.dSl ws.eSl)⟩
    · (simp (disch := (first | (simp only [List.length_set, hl]; omega) | omega | rfl)) only [sL, aEval_tmp])
      exact la1
    · (simp (disch := (first | (simp only [List.length_set, hl]; omega) | omega | rfl)) only [sL, aEval_tmp])
      exact lb1
    · (simp (disch := (first | (simp only [List.length_set, hl]; omega) | omega | rfl)) only [sL, aEval_tmp])
      exact lr1
    · (simp (disch := (first | (simp only [List.length_set, hl]; omega) | omega | rfl)) only [sL, aEval_tmp])
      exact ls1
  · repeat (first | (with_reducible refine Wp.st ?_; simp only [wS]) | with_reducible refine Wp.drawS (by decide +kernel) ?_ | simp (disch := (first | (simp only [List.length_set, hl]; omega) | omega | rfl)) only [walkA, walkB, bne_self_eq_false, beq_self_eq_true, Option.map_some, Option.map_none, reduceIte, decide_true, decide_false, Int.reduceLT, Int.reduceLE, Int.reduceMul, Int.reduceAdd, Int.reduceSub])
    simp (disch := (first | (simp only [List.length_set, hl]; omega) | omega | rfl)) only [aRes_one Try.results4, sL]
end Go.Proofs.Ytanknjpcgceccaa
