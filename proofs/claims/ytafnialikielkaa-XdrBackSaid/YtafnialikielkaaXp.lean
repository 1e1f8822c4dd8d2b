/- What the program's reader comes to, over the abstract machine: its place, numbers, truths, bytes. -/
import Derived.Test.YtafnialikielkaaXo
import Derived.Test.YtafnialikielkaaAm20
namespace Go.Proofs.Ytafnialikielkaa
open Go Go.AM
set_option linter.unusedSimpArgs false

theorem i3' : Try.prog.info? 3 = some Try.t3 := by kernel_rfl
theorem iErr : Try.prog.info? 54 = some Try.t54 := by kernel_rfl

section
variable {k off : Nat}
theorem faR0 : aFieldAddr Try.prog 74 (.pointer (some ⟨k, off, none⟩)) 0 = some (.pointer (some ⟨k, off, none⟩)) := by kernel_rfl
theorem faP0 : aFieldAddr Try.prog 72 (.pointer (some ⟨k, off, none⟩)) 0 = some (.pointer (some ⟨k, off, none⟩)) := by kernel_rfl
theorem faP1 : aFieldAddr Try.prog 72 (.pointer (some ⟨k, off, none⟩)) 1 = some (.pointer (some ⟨k, off + 1, none⟩)) := by kernel_rfl
theorem faP2 : aFieldAddr Try.prog 72 (.pointer (some ⟨k, off, none⟩)) 2 = some (.pointer (some ⟨k, off + 2, none⟩)) := by kernel_rfl
end

/-- A reader's block: the bytes, the place, the error. -/
def RD (h : Heap) (k : Nat) (T : TypeId) (bv : Value) (s : Nat × Int) : Prop := h.get k = some (.cells [bv, .int .i64 s.1, .int .i64 s.2] T false)

section
variable {h : Heap} {k : Nat} {T : TypeId} {bv : Value} {s : Nat × Int}
theorem RD.b (r : RD h k T bv s) : aLoad Try.prog h 27 (.pointer (some ⟨k, 0, none⟩)) = some bv := by rw [aLoad_at Try.underlying27 (by simp) (by simp) r]; rfl
theorem RD.p (r : RD h k T bv s) : aLoad Try.prog h 3 (.pointer (some ⟨k, 0 + 1, none⟩)) = some (.int .i64 s.1) := by rw [aLoad_at Try.underlying3 (by simp) (by simp) r]; rfl
theorem RD.e (r : RD h k T bv s) : aLoad Try.prog h 54 (.pointer (some ⟨k, 0 + 2, none⟩)) = some (.int .i64 s.2) := by rw [aLoad_at Try.underlying54 (by simp) (by simp) r]; rfl
theorem RD.wp (r : RD h k T bv s) (n : Int) : aStore Try.prog h 3 (.pointer (some ⟨k, 0 + 1, none⟩)) (.int .i64 n) = some (h.set k (.cells [bv, .int .i64 n, .int .i64 s.2] T false)) := by rw [aStore_at i3' rfl r (0 + 1) (by simp) rfl rfl]; rfl
theorem RD.we (r : RD h k T bv s) (n : Int) : aStore Try.prog h 54 (.pointer (some ⟨k, 0 + 2, none⟩)) (.int .i64 n) = some (h.set k (.cells [bv, .int .i64 s.1, .int .i64 n] T false)) := by rw [aStore_at iErr rfl r (0 + 2) (by simp) rfl rfl]; rfl
theorem RD.setp (r : RD h k T bv s) (n : Nat) : RD (h.set k (.cells [bv, .int .i64 n, .int .i64 s.2] T false)) k T bv (n, s.2) := Heap.get_set_eq r
theorem RD.sete (r : RD h k T bv s) (n : Int) : RD (h.set k (.cells [bv, .int .i64 s.1, .int .i64 n] T false)) k T bv (s.1, n) := Heap.get_set_eq r
end

theorem fail_am (x : Int) (k : Nat) (T : TypeId) (bv : Value) (s : Nat × Int) (h : Heap) (r : RD h k T bv s) :
    Cl Try.prog 35 [.pointer (some ⟨k, 0, none⟩), .int .i64 x] h fun v h' => v = .tuple #[] ∧ RD h' k T bv (s.1, if s.2 = 0 then x else s.2) ∧ Same h h' (onlyS k) := by
  refine Cl.enter Try.func35 rfl 13 Try.ntmps35 (by simp) ?_
  intro env hl ha
  have h0 : sl env 0 = .pointer (some ⟨k, 0, none⟩) := ha 0 (by simp)
  have h1 : sl env 1 = .int .i64 x := ha 1 (by simp)
  clear ha
  have le := r.e
  by_cases hz : s.2 = 0
  · have hzb : (s.2 == 0) = true := by simpa using hz
    have we := r.we x
    repeat (first | (with_reducible refine Wp.seq ?_) | (with_reducible refine Wp.region ?_) | (with_reducible refine Wp.drawS (by decide +kernel) ?_) | (with_reducible refine Wp.block ?_) | (with_reducible refine Wp.scope ?_) | (with_reducible refine Wp.skip ?_) | (with_reducible refine Wp.exit ?_) | (with_reducible refine Wp.ret ?_) | (with_reducible refine Wp.label ?_) | (simp (disch := (first | (simp only [List.length_set, hl]; omega) | (simp only [List.length_set, el]; omega) | omega | rfl)) only [then_normal, then_exit, then_ret, inBlock_normal, inBlock_ret, inBlock_exit, inBlock_other, WOps_nil, WOps_pick', WPick_bool, WOps_nilCheck', WNil_ptr, WOps_store', WSt_some, WOps_guard', WGd_tt, WGd_ff, WGd_tf, WGd_ft, gval_some, nthD_zero, nthD_succ, WOps_move, WOps_assign, WOps_alloc, WOps_box, WOps_build, WOps_buildSlice, WOps_load, WOps_binOp, WOps_unOp, WOps_convert, WOps_makeSlice, WOps_fieldAddr, WOps_field, WOps_indexAddr, WOps_index, WOps_extract, WOps_builtin, WOps_call, WV_some, WH_some, WH_with, aEval_tmp, aEval_const, aEval_global, aEval_func, aPut_some, aPut_none, List.length_set, bin_add, bin_sub, bin_mul, bin_and, bin_or, bin_eql, bin_neq, bin_lss, bin_leq, bin_gtr, bin_geq, bin_shl, bin_shr, bne_self_eq_false, beq_self_eq_true, un_not, un_neg, List.map_cons, List.map_nil, if_true, if_false, Bool.not_true, Bool.not_false, Bool.false_eq_true, reduceIte, decide_true, decide_false, Int.reduceLT, Int.reduceLE, Int.reduceMul, Int.reduceAdd, Int.reduceSub, Option.map_some, Option.map_none, sl_eq, sl_ne, WOps_slice, wrap_i64, h0, h1, faP2, le, hzb]))
    refine Wp.cond_true (by (simp (disch := (first | (simp only [List.length_set, hl]; omega) | (simp only [List.length_set, el]; omega) | omega | rfl)) only [List.length_set, sl_eq, sl_ne, aEval_tmp])) ?_
    repeat (first | (with_reducible refine Wp.seq ?_) | (with_reducible refine Wp.region ?_) | (with_reducible refine Wp.drawS (by decide +kernel) ?_) | (with_reducible refine Wp.block ?_) | (with_reducible refine Wp.scope ?_) | (with_reducible refine Wp.skip ?_) | (with_reducible refine Wp.exit ?_) | (with_reducible refine Wp.ret ?_) | (with_reducible refine Wp.label ?_) | (simp (disch := (first | (simp only [List.length_set, hl]; omega) | (simp only [List.length_set, el]; omega) | omega | rfl)) only [then_normal, then_exit, then_ret, inBlock_normal, inBlock_ret, inBlock_exit, inBlock_other, WOps_nil, WOps_pick', WPick_bool, WOps_nilCheck', WNil_ptr, WOps_store', WSt_some, WOps_guard', WGd_tt, WGd_ff, WGd_tf, WGd_ft, gval_some, nthD_zero, nthD_succ, WOps_move, WOps_assign, WOps_alloc, WOps_box, WOps_build, WOps_buildSlice, WOps_load, WOps_binOp, WOps_unOp, WOps_convert, WOps_makeSlice, WOps_fieldAddr, WOps_field, WOps_indexAddr, WOps_index, WOps_extract, WOps_builtin, WOps_call, WV_some, WH_some, WH_with, aEval_tmp, aEval_const, aEval_global, aEval_func, aPut_some, aPut_none, List.length_set, bin_add, bin_sub, bin_mul, bin_and, bin_or, bin_eql, bin_neq, bin_lss, bin_leq, bin_gtr, bin_geq, bin_shl, bin_shr, bne_self_eq_false, beq_self_eq_true, un_not, un_neg, List.map_cons, List.map_nil, if_true, if_false, Bool.not_true, Bool.not_false, Bool.false_eq_true, reduceIte, decide_true, decide_false, Int.reduceLT, Int.reduceLE, Int.reduceMul, Int.reduceAdd, Int.reduceSub, Option.map_some, Option.map_none, sl_eq, sl_ne, WOps_slice, wrap_i64, h0, h1, faP2, we]))
    simp only [aRes_none Try.results35]
    rw [if_pos hz]
    exact ⟨trivial, r.sete x, Same.set1 _ _ _⟩
  · have hzb : (s.2 == 0) = false := by simpa using hz
    repeat (first | (with_reducible refine Wp.seq ?_) | (with_reducible refine Wp.region ?_) | (with_reducible refine Wp.drawS (by decide +kernel) ?_) | (with_reducible refine Wp.block ?_) | (with_reducible refine Wp.scope ?_) | (with_reducible refine Wp.skip ?_) | (with_reducible refine Wp.exit ?_) | (with_reducible refine Wp.ret ?_) | (with_reducible refine Wp.label ?_) | (simp (disch := (first | (simp only [List.length_set, hl]; omega) | (simp only [List.length_set, el]; omega) | omega | rfl)) only [then_normal, then_exit, then_ret, inBlock_normal, inBlock_ret, inBlock_exit, inBlock_other, WOps_nil, WOps_pick', WPick_bool, WOps_nilCheck', WNil_ptr, WOps_store', WSt_some, WOps_guard', WGd_tt, WGd_ff, WGd_tf, WGd_ft, gval_some, nthD_zero, nthD_succ, WOps_move, WOps_assign, WOps_alloc, WOps_box, WOps_build, WOps_buildSlice, WOps_load, WOps_binOp, WOps_unOp, WOps_convert, WOps_makeSlice, WOps_fieldAddr, WOps_field, WOps_indexAddr, WOps_index, WOps_extract, WOps_builtin, WOps_call, WV_some, WH_some, WH_with, aEval_tmp, aEval_const, aEval_global, aEval_func, aPut_some, aPut_none, List.length_set, bin_add, bin_sub, bin_mul, bin_and, bin_or, bin_eql, bin_neq, bin_lss, bin_leq, bin_gtr, bin_geq, bin_shl, bin_shr, bne_self_eq_false, beq_self_eq_true, un_not, un_neg, List.map_cons, List.map_nil, if_true, if_false, Bool.not_true, Bool.not_false, Bool.false_eq_true, reduceIte, decide_true, decide_false, Int.reduceLT, Int.reduceLE, Int.reduceMul, Int.reduceAdd, Int.reduceSub, Option.map_some, Option.map_none, sl_eq, sl_ne, WOps_slice, wrap_i64, h0, h1, faP2, le, hzb]))
    refine Wp.cond_false (by (simp (disch := (first | (simp only [List.length_set, hl]; omega) | (simp only [List.length_set, el]; omega) | omega | rfl)) only [List.length_set, sl_eq, sl_ne, aEval_tmp])) ?_
    repeat (first | (with_reducible refine Wp.seq ?_) | (with_reducible refine Wp.region ?_) | (with_reducible refine Wp.drawS (by decide +kernel) ?_) | (with_reducible refine Wp.block ?_) | (with_reducible refine Wp.scope ?_) | (with_reducible refine Wp.skip ?_) | (with_reducible refine Wp.exit ?_) | (with_reducible refine Wp.ret ?_) | (with_reducible refine Wp.label ?_) | (simp (disch := (first | (simp only [List.length_set, hl]; omega) | (simp only [List.length_set, el]; omega) | omega | rfl)) only [then_normal, then_exit, then_ret, inBlock_normal, inBlock_ret, inBlock_exit, inBlock_other, WOps_nil, WOps_pick', WPick_bool, WOps_nilCheck', WNil_ptr, WOps_store', WSt_some, WOps_guard', WGd_tt, WGd_ff, WGd_tf, WGd_ft, gval_some, nthD_zero, nthD_succ, WOps_move, WOps_assign, WOps_alloc, WOps_box, WOps_build, WOps_buildSlice, WOps_load, WOps_binOp, WOps_unOp, WOps_convert, WOps_makeSlice, WOps_fieldAddr, WOps_field, WOps_indexAddr, WOps_index, WOps_extract, WOps_builtin, WOps_call, WV_some, WH_some, WH_with, aEval_tmp, aEval_const, aEval_global, aEval_func, aPut_some, aPut_none, List.length_set, bin_add, bin_sub, bin_mul, bin_and, bin_or, bin_eql, bin_neq, bin_lss, bin_leq, bin_gtr, bin_geq, bin_shl, bin_shr, bne_self_eq_false, beq_self_eq_true, un_not, un_neg, List.map_cons, List.map_nil, if_true, if_false, Bool.not_true, Bool.not_false, Bool.false_eq_true, reduceIte, decide_true, decide_false, Int.reduceLT, Int.reduceLE, Int.reduceMul, Int.reduceAdd, Int.reduceSub, Option.map_some, Option.map_none, sl_eq, sl_ne, WOps_slice, wrap_i64, h0, h1]))
    simp only [aRes_none Try.results35]
    rw [if_neg hz]
    exact ⟨trivial, r, Same.refl _ _⟩

/-! ### what a reader reads, as plain functions: of bytes bs, at place s.1, with the error s.2 -/
def rNum (bs : List Int) (n : Nat) (s : Nat × Int) : Int × Nat × Int :=
  if s.2 ≠ 0 then (0, s) else if s.1 + n ≤ bs.length then (beF 0 ((bs.drop s.1).take n), s.1 + n, 0) else (0, s.1, 11)
def rBool (bs : List Int) (s : Nat × Int) : Bool × Nat × Int :=
  if (rNum bs 4 s).1 > 1 then (false, s.1, 15) else ((rNum bs 4 s).1 == 1, (rNum bs 4 s).2)
def rFixed (bs : List Int) (n : Int) (s : Nat × Int) : List Int × Nat × Int :=
  if s.2 ≠ 0 then ([], s) else if n < 0 then ([], s.1, 1) else if bs.length < s.1 + n.toNat + pad n.toNat then ([], s.1, 11)
  else if ((bs.drop (s.1 + n.toNat)).take (pad n.toNat)).all (· == 0) then ((bs.drop s.1).take n.toNat, s.1 + n.toNat + pad n.toNat, 0) else ([], s.1, 15)
def rBytes (bs : List Int) (most : Int) (s : Nat × Int) : List Int × Nat × Int :=
  if (rNum bs 4 s).2.2 ≠ 0 then ([], s.1, (rNum bs 4 s).2.2) else if (rNum bs 4 s).1 > most then ([], s.1, 5)
  else if (rFixed bs (rNum bs 4 s).1 (rNum bs 4 s).2).2.2 ≠ 0 then ([], s.1, (rFixed bs (rNum bs 4 s).1 (rNum bs 4 s).2).2.2) else rFixed bs (rNum bs 4 s).1 (rNum bs 4 s).2

/-- A reader over bytes: what a call of it asks. -/
structure RdOK (h : Heap) (k : Nat) (T : TypeId) (bv : Value) (bs : List Int) (s : Nat × Int) : Prop where
  rd : RD h k T bv s
  row : RowX h 5 bv (bs.map (Value.int .u8))
  off : ∀ a n c, bv = .slice (some a) n c → n ≠ 0 → a.block ≠ k
  len : bs.length ≤ 1000000000
  pos : s.1 ≤ bs.length
  byte : ∀ b ∈ bs, 0 ≤ b ∧ b < 256

section
variable {h h' : Heap} {k : Nat} {T : TypeId} {bv : Value} {bs : List Int} {s s' : Nat × Int}
theorem RdOK.next (r : RdOK h k T bv bs s) (hr : RD h' k T bv s') (hs : Same h h' (onlyS k)) (hp : s'.1 ≤ bs.length) : RdOK h' k T bv bs s' :=
  ⟨hr, r.row.same hs (fun a n c e hn => r.off a n c e hn), r.off, r.len, hp, r.byte⟩
theorem RdOK.same {S : Nat → Prop} (r : RdOK h k T bv bs s) (hs : Same h h' S) (hk : ¬ S k) (ho : ∀ a n c, bv = .slice (some a) n c → n ≠ 0 → ¬ S a.block) : RdOK h' k T bv bs s :=
  ⟨hs.2 k _ r.rd hk, r.row.same hs ho, r.off, r.len, r.pos, r.byte⟩
theorem rNum_pos (n : Nat) (hp : s.1 ≤ bs.length) : (rNum bs n s).2.1 ≤ bs.length := by
  unfold rNum
  split
  · exact hp
  · split
    · assumption
    · exact hp
end

theorem number_am (n : Nat) (hn : n = 4 ∨ n = 8) (k : Nat) (T : TypeId) (bv : Value) (bs : List Int) (s : Nat × Int) (h : Heap) (r : RdOK h k T bv bs s) :
    Cl Try.prog 37 [.pointer (some ⟨k, 0, none⟩), .int .i64 n] h fun v h' => v = .int .u64 (rNum bs n s).1 ∧ RdOK h' k T bv bs (rNum bs n s).2 ∧ Same h h' (onlyS k) := by
  refine Cl.enter Try.func37 rfl 37 Try.ntmps37 (by simp) ?_
  intro env hl ha
  have h0 : sl env 0 = .pointer (some ⟨k, 0, none⟩) := ha 0 (by simp)
  have h1 : sl env 1 = .int .i64 n := ha 1 (by simp)
  clear ha
  have lb := r.rd.b
  have lp := r.rd.p
  repeat (first | (with_reducible refine Wp.seq ?_) | (with_reducible refine Wp.region ?_) | (with_reducible refine Wp.drawS (by decide +kernel) ?_) | (with_reducible refine Wp.block ?_) | (with_reducible refine Wp.scope ?_) | (with_reducible refine Wp.skip ?_) | (with_reducible refine Wp.exit ?_) | (with_reducible refine Wp.ret ?_) | (with_reducible refine Wp.label ?_) | (simp (disch := (first | (simp only [List.length_set, hl]; omega) | (simp only [List.length_set, el]; omega) | omega | rfl)) only [then_normal, then_exit, then_ret, inBlock_normal, inBlock_ret, inBlock_exit, inBlock_other, WOps_nil, WOps_pick', WPick_bool, WOps_nilCheck', WNil_ptr, WOps_store', WSt_some, WOps_guard', WGd_tt, WGd_ff, WGd_tf, WGd_ft, gval_some, nthD_zero, nthD_succ, WOps_move, WOps_assign, WOps_alloc, WOps_box, WOps_build, WOps_buildSlice, WOps_load, WOps_binOp, WOps_unOp, WOps_convert, WOps_makeSlice, WOps_fieldAddr, WOps_field, WOps_indexAddr, WOps_index, WOps_extract, WOps_builtin, WOps_call, WV_some, WH_some, WH_with, aEval_tmp, aEval_const, aEval_global, aEval_func, aPut_some, aPut_none, List.length_set, bin_add, bin_sub, bin_mul, bin_and, bin_or, bin_eql, bin_neq, bin_lss, bin_leq, bin_gtr, bin_geq, bin_shl, bin_shr, bne_self_eq_false, beq_self_eq_true, un_not, un_neg, List.map_cons, List.map_nil, if_true, if_false, Bool.not_true, Bool.not_false, Bool.false_eq_true, reduceIte, decide_true, decide_false, Int.reduceLT, Int.reduceLE, Int.reduceMul, Int.reduceAdd, Int.reduceSub, Option.map_some, Option.map_none, sl_eq, sl_ne, WOps_slice, wrap_i64, h0, h1, faP0, faP1, lb, lp]))
  refine (be_am n s.1 hn bv bs h r.row r.len r.pos).mono ?_
  rintro v h' ⟨rfl, rfl⟩
  obtain ⟨x, e, hbe, hx⟩ : ∃ (x e : Int), beR bs s.1 n = .tuple #[.int .u64 x, .int .i64 e] ∧ ((s.1 + n ≤ bs.length ∧ x = beF 0 ((bs.drop s.1).take n) ∧ e = 0) ∨ (¬ s.1 + n ≤ bs.length ∧ x = 0 ∧ e = 11)) := by
    unfold beR
    by_cases hle : s.1 + n ≤ bs.length
    · exact ⟨_, _, by rw [if_pos hle], .inl ⟨hle, rfl, rfl⟩⟩
    · exact ⟨_, _, by rw [if_neg hle], .inr ⟨hle, rfl, rfl⟩⟩
  have x0 : aExtract (.tuple #[.int .u64 x, .int .i64 e]) 0 = some (.int .u64 x) := rfl
  have x1 : aExtract (.tuple #[.int .u64 x, .int .i64 e]) 1 = some (.int .i64 e) := rfl
  repeat (first | (with_reducible refine Wp.seq ?_) | (with_reducible refine Wp.region ?_) | (with_reducible refine Wp.drawS (by decide +kernel) ?_) | (with_reducible refine Wp.block ?_) | (with_reducible refine Wp.scope ?_) | (with_reducible refine Wp.skip ?_) | (with_reducible refine Wp.exit ?_) | (with_reducible refine Wp.ret ?_) | (with_reducible refine Wp.label ?_) | (simp (disch := (first | (simp only [List.length_set, hl]; omega) | (simp only [List.length_set, el]; omega) | omega | rfl)) only [then_normal, then_exit, then_ret, inBlock_normal, inBlock_ret, inBlock_exit, inBlock_other, WOps_nil, WOps_pick', WPick_bool, WOps_nilCheck', WNil_ptr, WOps_store', WSt_some, WOps_guard', WGd_tt, WGd_ff, WGd_tf, WGd_ft, gval_some, nthD_zero, nthD_succ, WOps_move, WOps_assign, WOps_alloc, WOps_box, WOps_build, WOps_buildSlice, WOps_load, WOps_binOp, WOps_unOp, WOps_convert, WOps_makeSlice, WOps_fieldAddr, WOps_field, WOps_indexAddr, WOps_index, WOps_extract, WOps_builtin, WOps_call, WV_some, WH_some, WH_with, aEval_tmp, aEval_const, aEval_global, aEval_func, aPut_some, aPut_none, List.length_set, bin_add, bin_sub, bin_mul, bin_and, bin_or, bin_eql, bin_neq, bin_lss, bin_leq, bin_gtr, bin_geq, bin_shl, bin_shr, bne_self_eq_false, beq_self_eq_true, un_not, un_neg, List.map_cons, List.map_nil, if_true, if_false, Bool.not_true, Bool.not_false, Bool.false_eq_true, reduceIte, decide_true, decide_false, Int.reduceLT, Int.reduceLE, Int.reduceMul, Int.reduceAdd, Int.reduceSub, Option.map_some, Option.map_none, sl_eq, sl_ne, WOps_slice, wrap_i64, h0, h1, hbe, x0, x1]))
  refine (fail_am e k T bv s h' r.rd).mono ?_
  rintro v h2 ⟨rfl, r2, s2⟩
  have le := r2.e
  by_cases hz : s.2 = 0
  · rw [if_pos hz] at r2 le
    rcases hx with ⟨hle, rfl, rfl⟩ | ⟨hle, rfl, rfl⟩
    · have lp := r2.p
      have wp := r2.wp (s.1 + n)
      have w1 : IntKind.i64.wrap ((s.1 : Int) + (n : Int)) = (s.1 : Int) + (n : Int) := wrap_i64 (by omega) (by have := r.len; omega)
      repeat (first | (with_reducible refine Wp.seq ?_) | (with_reducible refine Wp.region ?_) | (with_reducible refine Wp.drawS (by decide +kernel) ?_) | (with_reducible refine Wp.block ?_) | (with_reducible refine Wp.scope ?_) | (with_reducible refine Wp.skip ?_) | (with_reducible refine Wp.exit ?_) | (with_reducible refine Wp.ret ?_) | (with_reducible refine Wp.label ?_) | (simp (disch := (first | (simp only [List.length_set, hl]; omega) | (simp only [List.length_set, el]; omega) | omega | rfl)) only [then_normal, then_exit, then_ret, inBlock_normal, inBlock_ret, inBlock_exit, inBlock_other, WOps_nil, WOps_pick', WPick_bool, WOps_nilCheck', WNil_ptr, WOps_store', WSt_some, WOps_guard', WGd_tt, WGd_ff, WGd_tf, WGd_ft, gval_some, nthD_zero, nthD_succ, WOps_move, WOps_assign, WOps_alloc, WOps_box, WOps_build, WOps_buildSlice, WOps_load, WOps_binOp, WOps_unOp, WOps_convert, WOps_makeSlice, WOps_fieldAddr, WOps_field, WOps_indexAddr, WOps_index, WOps_extract, WOps_builtin, WOps_call, WV_some, WH_some, WH_with, aEval_tmp, aEval_const, aEval_global, aEval_func, aPut_some, aPut_none, List.length_set, bin_add, bin_sub, bin_mul, bin_and, bin_or, bin_eql, bin_neq, bin_lss, bin_leq, bin_gtr, bin_geq, bin_shl, bin_shr, bne_self_eq_false, beq_self_eq_true, un_not, un_neg, List.map_cons, List.map_nil, if_true, if_false, Bool.not_true, Bool.not_false, Bool.false_eq_true, reduceIte, decide_true, decide_false, Int.reduceLT, Int.reduceLE, Int.reduceMul, Int.reduceAdd, Int.reduceSub, Option.map_some, Option.map_none, sl_eq, sl_ne, WOps_slice, wrap_i64, h0, h1, faP2, le]))
      refine Wp.cond_false (by (simp (disch := (first | (simp only [List.length_set, hl]; omega) | (simp only [List.length_set, el]; omega) | omega | rfl)) only [List.length_set, sl_eq, sl_ne, aEval_tmp])) ?_
      repeat (first | (with_reducible refine Wp.seq ?_) | (with_reducible refine Wp.region ?_) | (with_reducible refine Wp.drawS (by decide +kernel) ?_) | (with_reducible refine Wp.block ?_) | (with_reducible refine Wp.scope ?_) | (with_reducible refine Wp.skip ?_) | (with_reducible refine Wp.exit ?_) | (with_reducible refine Wp.ret ?_) | (with_reducible refine Wp.label ?_) | (simp (disch := (first | (simp only [List.length_set, hl]; omega) | (simp only [List.length_set, el]; omega) | omega | rfl)) only [then_normal, then_exit, then_ret, inBlock_normal, inBlock_ret, inBlock_exit, inBlock_other, WOps_nil, WOps_pick', WPick_bool, WOps_nilCheck', WNil_ptr, WOps_store', WSt_some, WOps_guard', WGd_tt, WGd_ff, WGd_tf, WGd_ft, gval_some, nthD_zero, nthD_succ, WOps_move, WOps_assign, WOps_alloc, WOps_box, WOps_build, WOps_buildSlice, WOps_load, WOps_binOp, WOps_unOp, WOps_convert, WOps_makeSlice, WOps_fieldAddr, WOps_field, WOps_indexAddr, WOps_index, WOps_extract, WOps_builtin, WOps_call, WV_some, WH_some, WH_with, aEval_tmp, aEval_const, aEval_global, aEval_func, aPut_some, aPut_none, List.length_set, bin_add, bin_sub, bin_mul, bin_and, bin_or, bin_eql, bin_neq, bin_lss, bin_leq, bin_gtr, bin_geq, bin_shl, bin_shr, bne_self_eq_false, beq_self_eq_true, un_not, un_neg, List.map_cons, List.map_nil, if_true, if_false, Bool.not_true, Bool.not_false, Bool.false_eq_true, reduceIte, decide_true, decide_false, Int.reduceLT, Int.reduceLE, Int.reduceMul, Int.reduceAdd, Int.reduceSub, Option.map_some, Option.map_none, sl_eq, sl_ne, WOps_slice, wrap_i64, h0, h1, faP1, lp, w1, wp]))
      simp (disch := (first | (simp only [List.length_set, hl]; omega) | omega | rfl)) only [aRes_one Try.results37, List.length_set, sl_eq, sl_ne]
      have e1 : rNum bs n s = (beF 0 ((bs.drop s.1).take n), s.1 + n, 0) := by unfold rNum; rw [if_neg (by simp [hz]), if_pos hle]
      rw [e1]
      have r3 := r2.setp (s.1 + n)
      have s3 := s2.then (Same.set1 h2 k (.cells [bv, .int .i64 (s.1 + n : Nat), .int .i64 0] T false))
      refine ⟨rfl, ?_, ?_⟩
      · exact r.next (by simpa using r3) (by simpa using s3) hle
      · simpa using s3
    · have e1 : rNum bs n s = (0, s.1, 11) := by unfold rNum; rw [if_neg (by simp [hz]), if_neg hle]
      repeat (first | (with_reducible refine Wp.seq ?_) | (with_reducible refine Wp.region ?_) | (with_reducible refine Wp.drawS (by decide +kernel) ?_) | (with_reducible refine Wp.block ?_) | (with_reducible refine Wp.scope ?_) | (with_reducible refine Wp.skip ?_) | (with_reducible refine Wp.exit ?_) | (with_reducible refine Wp.ret ?_) | (with_reducible refine Wp.label ?_) | (simp (disch := (first | (simp only [List.length_set, hl]; omega) | (simp only [List.length_set, el]; omega) | omega | rfl)) only [then_normal, then_exit, then_ret, inBlock_normal, inBlock_ret, inBlock_exit, inBlock_other, WOps_nil, WOps_pick', WPick_bool, WOps_nilCheck', WNil_ptr, WOps_store', WSt_some, WOps_guard', WGd_tt, WGd_ff, WGd_tf, WGd_ft, gval_some, nthD_zero, nthD_succ, WOps_move, WOps_assign, WOps_alloc, WOps_box, WOps_build, WOps_buildSlice, WOps_load, WOps_binOp, WOps_unOp, WOps_convert, WOps_makeSlice, WOps_fieldAddr, WOps_field, WOps_indexAddr, WOps_index, WOps_extract, WOps_builtin, WOps_call, WV_some, WH_some, WH_with, aEval_tmp, aEval_const, aEval_global, aEval_func, aPut_some, aPut_none, List.length_set, bin_add, bin_sub, bin_mul, bin_and, bin_or, bin_eql, bin_neq, bin_lss, bin_leq, bin_gtr, bin_geq, bin_shl, bin_shr, bne_self_eq_false, beq_self_eq_true, un_not, un_neg, List.map_cons, List.map_nil, if_true, if_false, Bool.not_true, Bool.not_false, Bool.false_eq_true, reduceIte, decide_true, decide_false, Int.reduceLT, Int.reduceLE, Int.reduceMul, Int.reduceAdd, Int.reduceSub, Option.map_some, Option.map_none, sl_eq, sl_ne, WOps_slice, wrap_i64, h0, h1, faP2, le]))
      refine Wp.cond_true (by (simp (disch := (first | (simp only [List.length_set, hl]; omega) | (simp only [List.length_set, el]; omega) | omega | rfl)) only [List.length_set, sl_eq, sl_ne, aEval_tmp]); rfl) ?_
      repeat (first | (with_reducible refine Wp.seq ?_) | (with_reducible refine Wp.region ?_) | (with_reducible refine Wp.drawS (by decide +kernel) ?_) | (with_reducible refine Wp.block ?_) | (with_reducible refine Wp.scope ?_) | (with_reducible refine Wp.skip ?_) | (with_reducible refine Wp.exit ?_) | (with_reducible refine Wp.ret ?_) | (with_reducible refine Wp.label ?_) | (simp (disch := (first | (simp only [List.length_set, hl]; omega) | (simp only [List.length_set, el]; omega) | omega | rfl)) only [then_normal, then_exit, then_ret, inBlock_normal, inBlock_ret, inBlock_exit, inBlock_other, WOps_nil, WOps_pick', WPick_bool, WOps_nilCheck', WNil_ptr, WOps_store', WSt_some, WOps_guard', WGd_tt, WGd_ff, WGd_tf, WGd_ft, gval_some, nthD_zero, nthD_succ, WOps_move, WOps_assign, WOps_alloc, WOps_box, WOps_build, WOps_buildSlice, WOps_load, WOps_binOp, WOps_unOp, WOps_convert, WOps_makeSlice, WOps_fieldAddr, WOps_field, WOps_indexAddr, WOps_index, WOps_extract, WOps_builtin, WOps_call, WV_some, WH_some, WH_with, aEval_tmp, aEval_const, aEval_global, aEval_func, aPut_some, aPut_none, List.length_set, bin_add, bin_sub, bin_mul, bin_and, bin_or, bin_eql, bin_neq, bin_lss, bin_leq, bin_gtr, bin_geq, bin_shl, bin_shr, bne_self_eq_false, beq_self_eq_true, un_not, un_neg, List.map_cons, List.map_nil, if_true, if_false, Bool.not_true, Bool.not_false, Bool.false_eq_true, reduceIte, decide_true, decide_false, Int.reduceLT, Int.reduceLE, Int.reduceMul, Int.reduceAdd, Int.reduceSub, Option.map_some, Option.map_none, sl_eq, sl_ne, WOps_slice, wrap_i64, h0, h1]))
      simp (disch := (first | (simp only [List.length_set, hl]; omega) | omega | rfl)) only [aRes_one Try.results37, List.length_set, sl_eq, sl_ne]
      rw [e1]
      exact ⟨rfl, r.next r2 s2 r.pos, s2⟩
  · rw [if_neg hz] at r2 le
    have e1 : rNum bs n s = (0, s) := by unfold rNum; rw [if_pos hz]
    have hzb : (s.2 != 0) = true := by simpa using hz
    repeat (first | (with_reducible refine Wp.seq ?_) | (with_reducible refine Wp.region ?_) | (with_reducible refine Wp.drawS (by decide +kernel) ?_) | (with_reducible refine Wp.block ?_) | (with_reducible refine Wp.scope ?_) | (with_reducible refine Wp.skip ?_) | (with_reducible refine Wp.exit ?_) | (with_reducible refine Wp.ret ?_) | (with_reducible refine Wp.label ?_) | (simp (disch := (first | (simp only [List.length_set, hl]; omega) | (simp only [List.length_set, el]; omega) | omega | rfl)) only [then_normal, then_exit, then_ret, inBlock_normal, inBlock_ret, inBlock_exit, inBlock_other, WOps_nil, WOps_pick', WPick_bool, WOps_nilCheck', WNil_ptr, WOps_store', WSt_some, WOps_guard', WGd_tt, WGd_ff, WGd_tf, WGd_ft, gval_some, nthD_zero, nthD_succ, WOps_move, WOps_assign, WOps_alloc, WOps_box, WOps_build, WOps_buildSlice, WOps_load, WOps_binOp, WOps_unOp, WOps_convert, WOps_makeSlice, WOps_fieldAddr, WOps_field, WOps_indexAddr, WOps_index, WOps_extract, WOps_builtin, WOps_call, WV_some, WH_some, WH_with, aEval_tmp, aEval_const, aEval_global, aEval_func, aPut_some, aPut_none, List.length_set, bin_add, bin_sub, bin_mul, bin_and, bin_or, bin_eql, bin_neq, bin_lss, bin_leq, bin_gtr, bin_geq, bin_shl, bin_shr, bne_self_eq_false, beq_self_eq_true, un_not, un_neg, List.map_cons, List.map_nil, if_true, if_false, Bool.not_true, Bool.not_false, Bool.false_eq_true, reduceIte, decide_true, decide_false, Int.reduceLT, Int.reduceLE, Int.reduceMul, Int.reduceAdd, Int.reduceSub, Option.map_some, Option.map_none, sl_eq, sl_ne, WOps_slice, wrap_i64, h0, h1, faP2, le, hzb]))
    refine Wp.cond_true (by (simp (disch := (first | (simp only [List.length_set, hl]; omega) | (simp only [List.length_set, el]; omega) | omega | rfl)) only [List.length_set, sl_eq, sl_ne, aEval_tmp])) ?_
    repeat (first | (with_reducible refine Wp.seq ?_) | (with_reducible refine Wp.region ?_) | (with_reducible refine Wp.drawS (by decide +kernel) ?_) | (with_reducible refine Wp.block ?_) | (with_reducible refine Wp.scope ?_) | (with_reducible refine Wp.skip ?_) | (with_reducible refine Wp.exit ?_) | (with_reducible refine Wp.ret ?_) | (with_reducible refine Wp.label ?_) | (simp (disch := (first | (simp only [List.length_set, hl]; omega) | (simp only [List.length_set, el]; omega) | omega | rfl)) only [then_normal, then_exit, then_ret, inBlock_normal, inBlock_ret, inBlock_exit, inBlock_other, WOps_nil, WOps_pick', WPick_bool, WOps_nilCheck', WNil_ptr, WOps_store', WSt_some, WOps_guard', WGd_tt, WGd_ff, WGd_tf, WGd_ft, gval_some, nthD_zero, nthD_succ, WOps_move, WOps_assign, WOps_alloc, WOps_box, WOps_build, WOps_buildSlice, WOps_load, WOps_binOp, WOps_unOp, WOps_convert, WOps_makeSlice, WOps_fieldAddr, WOps_field, WOps_indexAddr, WOps_index, WOps_extract, WOps_builtin, WOps_call, WV_some, WH_some, WH_with, aEval_tmp, aEval_const, aEval_global, aEval_func, aPut_some, aPut_none, List.length_set, bin_add, bin_sub, bin_mul, bin_and, bin_or, bin_eql, bin_neq, bin_lss, bin_leq, bin_gtr, bin_geq, bin_shl, bin_shr, bne_self_eq_false, beq_self_eq_true, un_not, un_neg, List.map_cons, List.map_nil, if_true, if_false, Bool.not_true, Bool.not_false, Bool.false_eq_true, reduceIte, decide_true, decide_false, Int.reduceLT, Int.reduceLE, Int.reduceMul, Int.reduceAdd, Int.reduceSub, Option.map_some, Option.map_none, sl_eq, sl_ne, WOps_slice, wrap_i64, h0, h1]))
    simp (disch := (first | (simp only [List.length_set, hl]; omega) | omega | rfl)) only [aRes_one Try.results37, List.length_set, sl_eq, sl_ne]
    rw [e1]
    exact ⟨rfl, r.next r2 s2 r.pos, s2⟩
end Go.Proofs.Ytafnialikielkaa
