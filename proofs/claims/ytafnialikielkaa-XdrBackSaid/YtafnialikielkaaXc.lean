/- What the writers' functions come to, over the abstract machine. -/
import Derived.Test.YtafnialikielkaaXb
namespace Go.Proofs.Ytafnialikielkaa
open Go Go.AM
set_option linter.unusedSimpArgs false

theorem i27 : Try.prog.info? 27 = some Try.t27 := by kernel_rfl
theorem i65 : Try.prog.info? 65 = some Try.t65 := by kernel_rfl
theorem i29 : Try.prog.info? 29 = some Try.t29 := by kernel_rfl
theorem i44 : Try.prog.info? 44 = some Try.t44 := by kernel_rfl
theorem i4 : Try.prog.info? 4 = some Try.t4 := by kernel_rfl

/-- A writer: a block of one cell that holds a row of bytes. -/
def WR (h : Heap) (w : Nat) (T : TypeId) (v : Value) (bs : List Value) : Prop := h.get w = some (.cells [v] T false) ∧ Buf h 5 v bs ∧ ¬ bufBlk v w
def own (v : Value) (w : Nat) : Nat → Prop := fun j => j = w ∨ bufBlk v j
def WQ (h : Heap) (w : Nat) (T : TypeId) (v : Value) (bs : List Value) : Value → Heap → Prop := fun r h' => r = .tuple #[] ∧ ∃ v', WR h' w T v' bs ∧ Same h h' (own v w) ∧ ∀ j, own v' w j → own v w j ∨ h.next ≤ j

theorem buf_slice {h : Heap} {el : TypeId} {v : Value} {vs : List Value} (b : Buf h el v vs) : ∃ a n c, v = .slice a n c := by
  rcases b with ⟨rfl, _⟩ | ⟨_, k, cs, e, ro, rfl, _⟩ | ⟨k, cap, rfl, _⟩ <;> exact ⟨_, _, _, rfl⟩

theorem loadW {h : Heap} {w : Nat} {T : TypeId} {v : Value} (hw : h.get w = some (.cells [v] T false)) : aLoad Try.prog h 27 (.pointer (some ⟨w, 0, none⟩)) = some v := by
  rw [aLoad_one Try.underlying27 (by simp) (by simp), rd1, hw]; rfl

theorem storeW {h : Heap} {w : Nat} {T : TypeId} {v x : Value} {a : Option Addr} {n c : Nat} (hw : h.get w = some (.cells [v] T false)) (hx : x = .slice a n c) : aStore Try.prog h 27 (.pointer (some ⟨w, 0, none⟩)) x = some (h.set w (.cells [x] T false)) := by
  subst hx
  have e1 : (Value.slice a n c).cells = #[.slice a n c] := rfl
  have e2 : Nat.ble (0 + 1) 1 = true := rfl
  have e3 : Nat.beq 1 (Try.t27).size = true := rfl
  have e4 : (Value.slice a n c).oneCell' = true := rfl
  simp [aStore, i27, wrN, hw, e1, e2, e3, e4, setL]

theorem field65 {w : Nat} : aFieldAddr Try.prog 65 (.pointer (some ⟨w, 0, none⟩)) 0 = some (.pointer (some ⟨w, 0, none⟩)) := by
  simp only [aFieldAddr, Try.underlying65, i27]; rfl
theorem field29 {w : Nat} : aFieldAddr Try.prog 29 (.pointer (some ⟨w, 0, none⟩)) 0 = some (.pointer (some ⟨w, 0, none⟩)) := by
  simp only [aFieldAddr, Try.underlying29, i27]; rfl

/-- The row is put in. -/
theorem WR.put {h h' : Heap} {w : Nat} {T : TypeId} {v out : Value} {bs bs' : List Value} (r : WR h w T v bs) (hs : Same h h' (bufBlk v)) (hb : Buf h' 5 out bs') (hf : ∀ j, bufBlk out j → bufBlk v j ∨ h.next ≤ j) :
    aStore Try.prog h' 27 (.pointer (some ⟨w, 0, none⟩)) out = some (h'.set w (.cells [out] T false)) ∧ WQ h w T v bs' (.tuple #[]) (h'.set w (.cells [out] T false)) := by
  obtain ⟨hg, hb0, hn⟩ := r
  have hg' := hs.2 w _ hg hn
  obtain ⟨a, n, c, hx⟩ := buf_slice hb
  have hno : ¬ bufBlk out w := fun hh => (hf w hh).elim hn (fun h2 => absurd (Heap.get_lt hg) (by omega))
  have hset : Same h' (h'.set w (.cells [out] T false)) (fun j => j = w) := Same.set _ _ _ rfl
  refine ⟨storeW hg' hx, rfl, out, ⟨Heap.get_set_eq hg', hb.same hset (fun j hj e => hno (by subst e; exact hj)), hno⟩, ?_, ?_⟩
  · exact hs.trans hset (fun j hj => .inr hj) (fun j _ e => .inl e)
  · rintro j (rfl | hj)
    · exact .inl (.inl rfl)
    · exact (hf j hj).imp .inr id

theorem WQ.trans {h h' : Heap} {w : Nat} {T : TypeId} {v v' : Value} {bs' : List Value} (hs : Same h h' (own v w)) (hf : ∀ j, own v' w j → own v w j ∨ h.next ≤ j) {r : Value} {h2 : Heap} (q : WQ h' w T v' bs' r h2) : WQ h w T v bs' r h2 := by
  obtain ⟨rfl, v2, hw2, hs2, hf2⟩ := q
  refine ⟨rfl, v2, hw2, hs.trans hs2 (fun j hj => hj) (fun j hj hh => (hf j hh).elim id (fun h2 => absurd hj (by omega))), fun j hj => (hf2 j hj).elim (hf j) (fun hh => .inr (Nat.le_trans hs.1 hh))⟩

/-- A number's bytes behind a row. -/
theorem high_am (n : Nat) (hn : n = 4 ∨ n = 8) (x : Int) (bv : Value) (bs : List Value) (h : Heap) (hb : Buf h 5 bv bs) (hlen : bs.length ≤ 1000000000) :
    Cl Try.prog 33 [bv, .int .i64 n, .int .u64 x] h fun v h' => Buf h' 5 v (bs ++ beTo x n) ∧ Same h h' (bufBlk bv) ∧ ∀ j, bufBlk v j → bufBlk bv j ∨ h.next ≤ j := by
  refine Cl.enter Try.func33 rfl 23 Try.ntmps33 (by simp) ?_
  intro env hl ha
  have h0 : sl env 0 = bv := ha 0 (by simp)
  have h1 : sl env 1 = .int .i64 n := ha 1 (by simp)
  have h2 : sl env 2 = .int .u64 x := ha 2 (by simp)
  clear ha
  repeat (first | (with_reducible refine Wp.seq ?_) | (with_reducible refine Wp.region ?_) | (with_reducible refine Wp.block ?_) | (with_reducible refine Wp.scope ?_) | (with_reducible refine Wp.skip ?_) | (with_reducible refine Wp.exit ?_) | (with_reducible refine Wp.ret ?_) | (with_reducible refine Wp.label ?_) | (simp (disch := (first | (simp only [List.length_set, hl]; omega) | (simp only [List.length_set, el]; omega) | omega | rfl)) only [then_normal, then_exit, then_ret, inBlock_normal, inBlock_ret, inBlock_exit, inBlock_other, WOps_nil, WOps_pick', WPick_bool, WOps_nilCheck', WNil_ptr, WOps_store', WSt_some, WOps_guard', WGd_tt, WGd_ff, WGd_tf, WGd_ft, gval_some, nthD_zero, nthD_succ, WOps_move, WOps_assign, WOps_alloc, WOps_box, WOps_build, WOps_buildSlice, WOps_load, WOps_binOp, WOps_unOp, WOps_convert, WOps_makeSlice, WOps_fieldAddr, WOps_field, WOps_indexAddr, WOps_index, WOps_extract, WOps_builtin, WOps_call, WV_some, WH_some, WH_with, aEval_tmp, aEval_const, aEval_global, aEval_func, aPut_some, aPut_none, List.length_set, bin_add, bin_sub, bin_mul, bin_and, bin_or, bin_eql, bin_neq, bin_lss, bin_leq, bin_gtr, bin_geq, bin_shl, bin_shr, bne_self_eq_false, beq_self_eq_true, un_not, un_neg, List.map_cons, List.map_nil, if_true, if_false, Bool.not_true, Bool.not_false, Bool.false_eq_true, reduceIte, decide_true, decide_false, Int.reduceLT, Int.reduceLE, Int.reduceMul, Int.reduceAdd, Int.reduceSub, Option.map_some, Option.map_none, sl_eq, sl_ne, WOps_slice, wrap_i64, h0, h1, h2]))
  refine Wp.loop (fun i e hh => ∃ cur out, e.length = 23 ∧ sl e 0 = out ∧ sl e 2 = .int .u64 x ∧ sl e 7 = .int .i64 ((i : Int) - 1) ∧ i ≤ n ∧ cur ++ beTo x i = bs ++ beTo x n ∧ Buf hh 5 out cur ∧ Same h hh (bufBlk bv) ∧ ∀ j, bufBlk out j → bufBlk bv j ∨ h.next ≤ j) n
    ⟨bs, bv, by simp [hl], by (simp (disch := (first | (simp only [List.length_set, hl]; omega) | (simp only [List.length_set, el]; omega) | omega | rfl)) only [List.length_set, sl_eq, sl_ne, h0]), by (simp (disch := (first | (simp only [List.length_set, hl]; omega) | (simp only [List.length_set, el]; omega) | omega | rfl)) only [List.length_set, sl_eq, sl_ne, h2]), by (simp (disch := (first | (simp only [List.length_set, hl]; omega) | (simp only [List.length_set, el]; omega) | omega | rfl)) only [List.length_set, sl_eq, sl_ne]), by omega, rfl, hb, Same.refl _ _, fun j hj => .inl hj⟩ ?_
  clear h0 h1 h2 hl env hb
  rintro i e hh ⟨cur, out, el, e0, e2, e7, hi, hcur, hbuf, hsame, hfr⟩
  repeat (first | (with_reducible refine Wp.seq ?_) | (with_reducible refine Wp.region ?_) | (with_reducible refine Wp.block ?_) | (with_reducible refine Wp.scope ?_) | (with_reducible refine Wp.skip ?_) | (with_reducible refine Wp.exit ?_) | (with_reducible refine Wp.ret ?_) | (with_reducible refine Wp.label ?_) | (simp (disch := (first | (simp only [List.length_set, hl]; omega) | (simp only [List.length_set, el]; omega) | omega | rfl)) only [then_normal, then_exit, then_ret, inBlock_normal, inBlock_ret, inBlock_exit, inBlock_other, WOps_nil, WOps_pick', WPick_bool, WOps_nilCheck', WNil_ptr, WOps_store', WSt_some, WOps_guard', WGd_tt, WGd_ff, WGd_tf, WGd_ft, gval_some, nthD_zero, nthD_succ, WOps_move, WOps_assign, WOps_alloc, WOps_box, WOps_build, WOps_buildSlice, WOps_load, WOps_binOp, WOps_unOp, WOps_convert, WOps_makeSlice, WOps_fieldAddr, WOps_field, WOps_indexAddr, WOps_index, WOps_extract, WOps_builtin, WOps_call, WV_some, WH_some, WH_with, aEval_tmp, aEval_const, aEval_global, aEval_func, aPut_some, aPut_none, List.length_set, bin_add, bin_sub, bin_mul, bin_and, bin_or, bin_eql, bin_neq, bin_lss, bin_leq, bin_gtr, bin_geq, bin_shl, bin_shr, bne_self_eq_false, beq_self_eq_true, un_not, un_neg, List.map_cons, List.map_nil, if_true, if_false, Bool.not_true, Bool.not_false, Bool.false_eq_true, reduceIte, decide_true, decide_false, Int.reduceLT, Int.reduceLE, Int.reduceMul, Int.reduceAdd, Int.reduceSub, Option.map_some, Option.map_none, sl_eq, sl_ne, WOps_slice, wrap_i64, e0, e2, e7]))
  cases i with
  | zero =>
    refine Wp.cond_false (by (simp (disch := (first | (simp only [List.length_set, hl]; omega) | (simp only [List.length_set, el]; omega) | omega | rfl)) only [List.length_set, sl_eq, sl_ne, aEval_tmp]); rfl) ?_
    repeat (first | (with_reducible refine Wp.seq ?_) | (with_reducible refine Wp.region ?_) | (with_reducible refine Wp.block ?_) | (with_reducible refine Wp.scope ?_) | (with_reducible refine Wp.skip ?_) | (with_reducible refine Wp.exit ?_) | (with_reducible refine Wp.ret ?_) | (with_reducible refine Wp.label ?_) | (simp (disch := (first | (simp only [List.length_set, hl]; omega) | (simp only [List.length_set, el]; omega) | omega | rfl)) only [then_normal, then_exit, then_ret, inBlock_normal, inBlock_ret, inBlock_exit, inBlock_other, WOps_nil, WOps_pick', WPick_bool, WOps_nilCheck', WNil_ptr, WOps_store', WSt_some, WOps_guard', WGd_tt, WGd_ff, WGd_tf, WGd_ft, gval_some, nthD_zero, nthD_succ, WOps_move, WOps_assign, WOps_alloc, WOps_box, WOps_build, WOps_buildSlice, WOps_load, WOps_binOp, WOps_unOp, WOps_convert, WOps_makeSlice, WOps_fieldAddr, WOps_field, WOps_indexAddr, WOps_index, WOps_extract, WOps_builtin, WOps_call, WV_some, WH_some, WH_with, aEval_tmp, aEval_const, aEval_global, aEval_func, aPut_some, aPut_none, List.length_set, bin_add, bin_sub, bin_mul, bin_and, bin_or, bin_eql, bin_neq, bin_lss, bin_leq, bin_gtr, bin_geq, bin_shl, bin_shr, bne_self_eq_false, beq_self_eq_true, un_not, un_neg, List.map_cons, List.map_nil, if_true, if_false, Bool.not_true, Bool.not_false, Bool.false_eq_true, reduceIte, decide_true, decide_false, Int.reduceLT, Int.reduceLE, Int.reduceMul, Int.reduceAdd, Int.reduceSub, Option.map_some, Option.map_none, sl_eq, sl_ne, WOps_slice, wrap_i64, e0, e2, e7]))
    simp (disch := (first | (simp only [List.length_set, hl]; omega) | (simp only [List.length_set, el]; omega) | omega | rfl)) only [aRes_one Try.results33, List.length_set, sl_eq, sl_ne]
    exact ⟨by rw [← hcur]; simpa [beTo] using hbuf, hsame, hfr⟩
  | succ i =>
    have e7' : sl e 7 = .int .i64 i := by rw [e7]; congr 1; omega
    refine Wp.cond_true (by (simp (disch := (first | (simp only [List.length_set, hl]; omega) | (simp only [List.length_set, el]; omega) | omega | rfl)) only [List.length_set, sl_eq, sl_ne, aEval_tmp]); simp) ?_
    obtain ⟨v2, h2, hap, hb2, hs2, hf2⟩ := push_one (x := beB x i) hbuf (oneB _ _) (by
      have := congrArg List.length hcur
      simp only [List.length_append, beTo_length] at this
      rcases hn with rfl | rfl <;> omega)
    have hsl := slice_one (h := hh) (v := beB x i) Try.underlying27 i5 rfl rfl rfl rfl rfl rfl
    simp only [beB] at hsl hap
    have hcv := fun x hx => conv_int (h := hx) (k' := .u64) (n := x) Try.underlying30 Try.underlying5
    repeat (first | (with_reducible refine Wp.seq ?_) | (with_reducible refine Wp.region ?_) | (with_reducible refine Wp.block ?_) | (with_reducible refine Wp.scope ?_) | (with_reducible refine Wp.skip ?_) | (with_reducible refine Wp.exit ?_) | (with_reducible refine Wp.ret ?_) | (with_reducible refine Wp.label ?_) | (simp (disch := (first | (simp only [List.length_set, hl]; omega) | (simp only [List.length_set, el]; omega) | omega | rfl)) only [then_normal, then_exit, then_ret, inBlock_normal, inBlock_ret, inBlock_exit, inBlock_other, WOps_nil, WOps_pick', WPick_bool, WOps_nilCheck', WNil_ptr, WOps_store', WSt_some, WOps_guard', WGd_tt, WGd_ff, WGd_tf, WGd_ft, gval_some, nthD_zero, nthD_succ, WOps_move, WOps_assign, WOps_alloc, WOps_box, WOps_build, WOps_buildSlice, WOps_load, WOps_binOp, WOps_unOp, WOps_convert, WOps_makeSlice, WOps_fieldAddr, WOps_field, WOps_indexAddr, WOps_index, WOps_extract, WOps_builtin, WOps_call, WV_some, WH_some, WH_with, aEval_tmp, aEval_const, aEval_global, aEval_func, aPut_some, aPut_none, List.length_set, bin_add, bin_sub, bin_mul, bin_and, bin_or, bin_eql, bin_neq, bin_lss, bin_leq, bin_gtr, bin_geq, bin_shl, bin_shr, bne_self_eq_false, beq_self_eq_true, un_not, un_neg, List.map_cons, List.map_nil, if_true, if_false, Bool.not_true, Bool.not_false, Bool.false_eq_true, reduceIte, decide_true, decide_false, Int.reduceLT, Int.reduceLE, Int.reduceMul, Int.reduceAdd, Int.reduceSub, Option.map_some, Option.map_none, sl_eq, sl_ne, WOps_slice, wrap_i64, e0, e2, e7', builtin_append, hsl, hap, hcv]))
    refine ⟨i, by omega, cur ++ [beB x i], v2, by simp [el], by (simp (disch := (first | (simp only [List.length_set, hl]; omega) | (simp only [List.length_set, el]; omega) | omega | rfl)) only [List.length_set, sl_eq, sl_ne]), by (simp (disch := (first | (simp only [List.length_set, hl]; omega) | (simp only [List.length_set, el]; omega) | omega | rfl)) only [List.length_set, sl_eq, sl_ne, e2]), by (simp (disch := (first | (simp only [List.length_set, hl]; omega) | (simp only [List.length_set, el]; omega) | omega | rfl)) only [List.length_set, sl_eq, sl_ne]), by omega, by rw [← hcur]; simp [beTo], hb2, ?_, ?_⟩
    · exact hsame.trans hs2 (fun _ hh => hh) (fun b hb hh => (hfr b hh).elim id (fun h3 => absurd hb (by omega)))
    · exact fun b hb => (hf2 b hb).elim (hfr b) (fun hh => .inr (Nat.le_trans hsame.1 hh))

theorem noughts_am (n : Nat) (hn : n ≤ 3) (bv : Value) (bs : List Value) (h : Heap) (hb : Buf h 5 bv bs) (hlen : bs.length ≤ 1000000000) :
    Cl Try.prog 34 [bv, .int .i64 n] h fun v h' => Buf h' 5 v (bs ++ List.replicate n (.int .u8 0)) ∧ Same h h' (bufBlk bv) ∧ ∀ j, bufBlk v j → bufBlk bv j ∨ h.next ≤ j := by
  refine Cl.enter Try.func34 rfl 15 Try.ntmps34 (by simp) ?_
  intro env hl ha
  have h0 : sl env 0 = bv := ha 0 (by simp)
  have h1 : sl env 1 = .int .i64 n := ha 1 (by simp)
  clear ha
  repeat (first | (with_reducible refine Wp.seq ?_) | (with_reducible refine Wp.region ?_) | (with_reducible refine Wp.block ?_) | (with_reducible refine Wp.scope ?_) | (with_reducible refine Wp.skip ?_) | (with_reducible refine Wp.exit ?_) | (with_reducible refine Wp.ret ?_) | (with_reducible refine Wp.label ?_) | (simp (disch := (first | (simp only [List.length_set, hl]; omega) | (simp only [List.length_set, el]; omega) | omega | rfl)) only [then_normal, then_exit, then_ret, inBlock_normal, inBlock_ret, inBlock_exit, inBlock_other, WOps_nil, WOps_pick', WPick_bool, WOps_nilCheck', WNil_ptr, WOps_store', WSt_some, WOps_guard', WGd_tt, WGd_ff, WGd_tf, WGd_ft, gval_some, nthD_zero, nthD_succ, WOps_move, WOps_assign, WOps_alloc, WOps_box, WOps_build, WOps_buildSlice, WOps_load, WOps_binOp, WOps_unOp, WOps_convert, WOps_makeSlice, WOps_fieldAddr, WOps_field, WOps_indexAddr, WOps_index, WOps_extract, WOps_builtin, WOps_call, WV_some, WH_some, WH_with, aEval_tmp, aEval_const, aEval_global, aEval_func, aPut_some, aPut_none, List.length_set, bin_add, bin_sub, bin_mul, bin_and, bin_or, bin_eql, bin_neq, bin_lss, bin_leq, bin_gtr, bin_geq, bin_shl, bin_shr, bne_self_eq_false, beq_self_eq_true, un_not, un_neg, List.map_cons, List.map_nil, if_true, if_false, Bool.not_true, Bool.not_false, Bool.false_eq_true, reduceIte, decide_true, decide_false, Int.reduceLT, Int.reduceLE, Int.reduceMul, Int.reduceAdd, Int.reduceSub, Option.map_some, Option.map_none, sl_eq, sl_ne, WOps_slice, wrap_i64, h0, h1]))
  refine Wp.loop (fun m e hh => ∃ i out, i + m = n ∧ e.length = 15 ∧ sl e 0 = out ∧ sl e 1 = .int .i64 n ∧ sl e 5 = .int .i64 (i : Nat) ∧ Buf hh 5 out (bs ++ List.replicate i (.int .u8 0)) ∧ Same h hh (bufBlk bv) ∧ ∀ j, bufBlk out j → bufBlk bv j ∨ h.next ≤ j) n
    ⟨0, bv, by omega, by simp [hl], by (simp (disch := (first | (simp only [List.length_set, hl]; omega) | (simp only [List.length_set, el]; omega) | omega | rfl)) only [List.length_set, sl_eq, sl_ne, h0]), by (simp (disch := (first | (simp only [List.length_set, hl]; omega) | (simp only [List.length_set, el]; omega) | omega | rfl)) only [List.length_set, sl_eq, sl_ne, h1]), by (simp (disch := (first | (simp only [List.length_set, hl]; omega) | (simp only [List.length_set, el]; omega) | omega | rfl)) only [List.length_set, sl_eq, sl_ne]); rfl, by simpa using hb, Same.refl _ _, fun j hj => .inl hj⟩ ?_
  clear h0 h1 hl env hb
  rintro m e hh ⟨i, out, hi, el, e0, e1, e5, hbuf, hsame, hfr⟩
  repeat (first | (with_reducible refine Wp.seq ?_) | (with_reducible refine Wp.region ?_) | (with_reducible refine Wp.block ?_) | (with_reducible refine Wp.scope ?_) | (with_reducible refine Wp.skip ?_) | (with_reducible refine Wp.exit ?_) | (with_reducible refine Wp.ret ?_) | (with_reducible refine Wp.label ?_) | (simp (disch := (first | (simp only [List.length_set, hl]; omega) | (simp only [List.length_set, el]; omega) | omega | rfl)) only [then_normal, then_exit, then_ret, inBlock_normal, inBlock_ret, inBlock_exit, inBlock_other, WOps_nil, WOps_pick', WPick_bool, WOps_nilCheck', WNil_ptr, WOps_store', WSt_some, WOps_guard', WGd_tt, WGd_ff, WGd_tf, WGd_ft, gval_some, nthD_zero, nthD_succ, WOps_move, WOps_assign, WOps_alloc, WOps_box, WOps_build, WOps_buildSlice, WOps_load, WOps_binOp, WOps_unOp, WOps_convert, WOps_makeSlice, WOps_fieldAddr, WOps_field, WOps_indexAddr, WOps_index, WOps_extract, WOps_builtin, WOps_call, WV_some, WH_some, WH_with, aEval_tmp, aEval_const, aEval_global, aEval_func, aPut_some, aPut_none, List.length_set, bin_add, bin_sub, bin_mul, bin_and, bin_or, bin_eql, bin_neq, bin_lss, bin_leq, bin_gtr, bin_geq, bin_shl, bin_shr, bne_self_eq_false, beq_self_eq_true, un_not, un_neg, List.map_cons, List.map_nil, if_true, if_false, Bool.not_true, Bool.not_false, Bool.false_eq_true, reduceIte, decide_true, decide_false, Int.reduceLT, Int.reduceLE, Int.reduceMul, Int.reduceAdd, Int.reduceSub, Option.map_some, Option.map_none, sl_eq, sl_ne, WOps_slice, wrap_i64, e0, e1, e5]))
  by_cases hlt : i < n
  · refine Wp.cond_true (by (simp (disch := (first | (simp only [List.length_set, hl]; omega) | (simp only [List.length_set, el]; omega) | omega | rfl)) only [List.length_set, sl_eq, sl_ne, aEval_tmp]); simpa using hlt) ?_
    obtain ⟨v2, h2, hap, hb2, hs2, hf2⟩ := push_one (x := .int .u8 0) hbuf rfl (by simp; omega)
    have hsl := slice_one (h := hh) (v := .int .u8 0) Try.underlying27 i5 rfl rfl rfl rfl rfl rfl
    repeat (first | (with_reducible refine Wp.seq ?_) | (with_reducible refine Wp.region ?_) | (with_reducible refine Wp.block ?_) | (with_reducible refine Wp.scope ?_) | (with_reducible refine Wp.skip ?_) | (with_reducible refine Wp.exit ?_) | (with_reducible refine Wp.ret ?_) | (with_reducible refine Wp.label ?_) | (simp (disch := (first | (simp only [List.length_set, hl]; omega) | (simp only [List.length_set, el]; omega) | omega | rfl)) only [then_normal, then_exit, then_ret, inBlock_normal, inBlock_ret, inBlock_exit, inBlock_other, WOps_nil, WOps_pick', WPick_bool, WOps_nilCheck', WNil_ptr, WOps_store', WSt_some, WOps_guard', WGd_tt, WGd_ff, WGd_tf, WGd_ft, gval_some, nthD_zero, nthD_succ, WOps_move, WOps_assign, WOps_alloc, WOps_box, WOps_build, WOps_buildSlice, WOps_load, WOps_binOp, WOps_unOp, WOps_convert, WOps_makeSlice, WOps_fieldAddr, WOps_field, WOps_indexAddr, WOps_index, WOps_extract, WOps_builtin, WOps_call, WV_some, WH_some, WH_with, aEval_tmp, aEval_const, aEval_global, aEval_func, aPut_some, aPut_none, List.length_set, bin_add, bin_sub, bin_mul, bin_and, bin_or, bin_eql, bin_neq, bin_lss, bin_leq, bin_gtr, bin_geq, bin_shl, bin_shr, bne_self_eq_false, beq_self_eq_true, un_not, un_neg, List.map_cons, List.map_nil, if_true, if_false, Bool.not_true, Bool.not_false, Bool.false_eq_true, reduceIte, decide_true, decide_false, Int.reduceLT, Int.reduceLE, Int.reduceMul, Int.reduceAdd, Int.reduceSub, Option.map_some, Option.map_none, sl_eq, sl_ne, WOps_slice, wrap_i64, e0, e1, e5, builtin_append, hsl, hap]))
    refine ⟨m - 1, by omega, i + 1, v2, by omega, by simp [el], by (simp (disch := (first | (simp only [List.length_set, hl]; omega) | (simp only [List.length_set, el]; omega) | omega | rfl)) only [List.length_set, sl_eq, sl_ne]), by (simp (disch := (first | (simp only [List.length_set, hl]; omega) | (simp only [List.length_set, el]; omega) | omega | rfl)) only [List.length_set, sl_eq, sl_ne, e1]), by (simp (disch := (first | (simp only [List.length_set, hl]; omega) | (simp only [List.length_set, el]; omega) | omega | rfl)) only [List.length_set, sl_eq, sl_ne, Int.natCast_add]); rfl, by simpa [List.replicate_succ', List.append_assoc] using hb2, ?_, ?_⟩
    · exact hsame.trans hs2 (fun _ hh => hh) (fun b hb hh => (hfr b hh).elim id (fun h3 => absurd hb (by omega)))
    · exact fun b hb => (hf2 b hb).elim (hfr b) (fun hh => .inr (Nat.le_trans hsame.1 hh))
  · refine Wp.cond_false (by (simp (disch := (first | (simp only [List.length_set, hl]; omega) | (simp only [List.length_set, el]; omega) | omega | rfl)) only [List.length_set, sl_eq, sl_ne, aEval_tmp]); simpa using hlt) ?_
    repeat (first | (with_reducible refine Wp.seq ?_) | (with_reducible refine Wp.region ?_) | (with_reducible refine Wp.block ?_) | (with_reducible refine Wp.scope ?_) | (with_reducible refine Wp.skip ?_) | (with_reducible refine Wp.exit ?_) | (with_reducible refine Wp.ret ?_) | (with_reducible refine Wp.label ?_) | (simp (disch := (first | (simp only [List.length_set, hl]; omega) | (simp only [List.length_set, el]; omega) | omega | rfl)) only [then_normal, then_exit, then_ret, inBlock_normal, inBlock_ret, inBlock_exit, inBlock_other, WOps_nil, WOps_pick', WPick_bool, WOps_nilCheck', WNil_ptr, WOps_store', WSt_some, WOps_guard', WGd_tt, WGd_ff, WGd_tf, WGd_ft, gval_some, nthD_zero, nthD_succ, WOps_move, WOps_assign, WOps_alloc, WOps_box, WOps_build, WOps_buildSlice, WOps_load, WOps_binOp, WOps_unOp, WOps_convert, WOps_makeSlice, WOps_fieldAddr, WOps_field, WOps_indexAddr, WOps_index, WOps_extract, WOps_builtin, WOps_call, WV_some, WH_some, WH_with, aEval_tmp, aEval_const, aEval_global, aEval_func, aPut_some, aPut_none, List.length_set, bin_add, bin_sub, bin_mul, bin_and, bin_or, bin_eql, bin_neq, bin_lss, bin_leq, bin_gtr, bin_geq, bin_shl, bin_shr, bne_self_eq_false, beq_self_eq_true, un_not, un_neg, List.map_cons, List.map_nil, if_true, if_false, Bool.not_true, Bool.not_false, Bool.false_eq_true, reduceIte, decide_true, decide_false, Int.reduceLT, Int.reduceLE, Int.reduceMul, Int.reduceAdd, Int.reduceSub, Option.map_some, Option.map_none, sl_eq, sl_ne, WOps_slice, wrap_i64, e0, e1, e5]))
    simp (disch := (first | (simp only [List.length_set, hl]; omega) | (simp only [List.length_set, el]; omega) | omega | rfl)) only [aRes_one Try.results34, List.length_set, sl_eq, sl_ne]
    have : i = n := by omega
    subst this
    exact ⟨hbuf, hsame, hfr⟩

/-- The reference writer's numbers. -/
theorem refU32_am (x : Int) (w : Nat) (v : Value) (bs : List Value) (h : Heap) (hx : 0 ≤ x ∧ x < 4294967296) (hw : WR h w 29 v bs) (hlen : bs.length ≤ 1000000000) :
    Cl Try.prog 15 [.pointer (some ⟨w, 0, none⟩), .int .u32 x] h (WQ h w 29 v (bs ++ beTo x 4)) := by
  refine Cl.enter Try.func15 rfl 14 Try.ntmps15 (by simp) ?_
  intro env hl ha
  have h0 : sl env 0 = .pointer (some ⟨w, 0, none⟩) := ha 0 (by simp)
  have h1 : sl env 1 = .int .u32 x := ha 1 (by simp)
  clear ha
  have hld := loadW hw.1
  have hcv := fun x hx => conv_int (h := hx) (k' := .u32) (n := x) Try.underlying44 Try.underlying30
  have hwr : IntKind.u64.wrap x = x := wrap_u64 hx.1 (by omega)
  repeat (first | (with_reducible refine Wp.seq ?_) | (with_reducible refine Wp.region ?_) | (with_reducible refine Wp.block ?_) | (with_reducible refine Wp.scope ?_) | (with_reducible refine Wp.skip ?_) | (with_reducible refine Wp.exit ?_) | (with_reducible refine Wp.ret ?_) | (with_reducible refine Wp.label ?_) | (simp (disch := (first | (simp only [List.length_set, hl]; omega) | (simp only [List.length_set, el]; omega) | omega | rfl)) only [then_normal, then_exit, then_ret, inBlock_normal, inBlock_ret, inBlock_exit, inBlock_other, WOps_nil, WOps_pick', WPick_bool, WOps_nilCheck', WNil_ptr, WOps_store', WSt_some, WOps_guard', WGd_tt, WGd_ff, WGd_tf, WGd_ft, gval_some, nthD_zero, nthD_succ, WOps_move, WOps_assign, WOps_alloc, WOps_box, WOps_build, WOps_buildSlice, WOps_load, WOps_binOp, WOps_unOp, WOps_convert, WOps_makeSlice, WOps_fieldAddr, WOps_field, WOps_indexAddr, WOps_index, WOps_extract, WOps_builtin, WOps_call, WV_some, WH_some, WH_with, aEval_tmp, aEval_const, aEval_global, aEval_func, aPut_some, aPut_none, List.length_set, bin_add, bin_sub, bin_mul, bin_and, bin_or, bin_eql, bin_neq, bin_lss, bin_leq, bin_gtr, bin_geq, bin_shl, bin_shr, bne_self_eq_false, beq_self_eq_true, un_not, un_neg, List.map_cons, List.map_nil, if_true, if_false, Bool.not_true, Bool.not_false, Bool.false_eq_true, reduceIte, decide_true, decide_false, Int.reduceLT, Int.reduceLE, Int.reduceMul, Int.reduceAdd, Int.reduceSub, Option.map_some, Option.map_none, sl_eq, sl_ne, WOps_slice, wrap_i64, h0, h1, field29, hld, hcv, hwr]))
  refine (high_am 4 (.inl rfl) x v bs h hw.2.1 hlen).mono ?_
  rintro out h' ⟨hb, hs, hf⟩
  obtain ⟨hst, hq⟩ := hw.put hs hb hf
  repeat (first | (with_reducible refine Wp.seq ?_) | (with_reducible refine Wp.region ?_) | (with_reducible refine Wp.block ?_) | (with_reducible refine Wp.scope ?_) | (with_reducible refine Wp.skip ?_) | (with_reducible refine Wp.exit ?_) | (with_reducible refine Wp.ret ?_) | (with_reducible refine Wp.label ?_) | (simp (disch := (first | (simp only [List.length_set, hl]; omega) | (simp only [List.length_set, el]; omega) | omega | rfl)) only [then_normal, then_exit, then_ret, inBlock_normal, inBlock_ret, inBlock_exit, inBlock_other, WOps_nil, WOps_pick', WPick_bool, WOps_nilCheck', WNil_ptr, WOps_store', WSt_some, WOps_guard', WGd_tt, WGd_ff, WGd_tf, WGd_ft, gval_some, nthD_zero, nthD_succ, WOps_move, WOps_assign, WOps_alloc, WOps_box, WOps_build, WOps_buildSlice, WOps_load, WOps_binOp, WOps_unOp, WOps_convert, WOps_makeSlice, WOps_fieldAddr, WOps_field, WOps_indexAddr, WOps_index, WOps_extract, WOps_builtin, WOps_call, WV_some, WH_some, WH_with, aEval_tmp, aEval_const, aEval_global, aEval_func, aPut_some, aPut_none, List.length_set, bin_add, bin_sub, bin_mul, bin_and, bin_or, bin_eql, bin_neq, bin_lss, bin_leq, bin_gtr, bin_geq, bin_shl, bin_shr, bne_self_eq_false, beq_self_eq_true, un_not, un_neg, List.map_cons, List.map_nil, if_true, if_false, Bool.not_true, Bool.not_false, Bool.false_eq_true, reduceIte, decide_true, decide_false, Int.reduceLT, Int.reduceLE, Int.reduceMul, Int.reduceAdd, Int.reduceSub, Option.map_some, Option.map_none, sl_eq, sl_ne, WOps_slice, wrap_i64, h0, h1, field29, hst]))
  simp only [aRes_none Try.results15]
  exact hq
end Go.Proofs.Ytafnialikielkaa
