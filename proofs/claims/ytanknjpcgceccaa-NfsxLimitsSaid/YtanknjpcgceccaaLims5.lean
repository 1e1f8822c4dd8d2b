/- Experiments. -/
import Derived.Test.YtanknjpcgceccaaLims4
import Derived.Test.YtanknjpcgceccaaRows
import Derived.KernelRfl

namespace Go.Proofs.Ytanknjpcgceccaa
open Go Go.AM
set_option linter.unusedSimpArgs false
set_option maxRecDepth 100000
theorem size_am (n : Int) (h : Heap) : Cl Try.prog 105 [.int .i64 n] h fun v h' => v = .bool (decide (n = 1 ∨ n = 2 ∨ n = 4 ∨ n = 8)) ∧ h' = h := by
  refine Cl.enter Try.func105 rfl 12 Try.ntmps105 (by simp) ?_
  intro env hl ha
  have h0 : sl env 0 = .int .i64 n := ha 0 (by simp)
  clear ha
  iterate 5
    all_goals
      repeat (first | (with_reducible refine Wp.st ?_; simp only [wS]) | with_reducible refine Wp.drawS (by decide +kernel) ?_ | simp (disch := (first | (simp only [List.length_set, hl]; omega) | omega | rfl)) only [walkA, walkB, bne_self_eq_false, beq_self_eq_true, Option.map_some, Option.map_none, reduceIte, decide_true, decide_false, Int.reduceLT, Int.reduceLE, Int.reduceMul, Int.reduceAdd, Int.reduceSub, h0])
    all_goals try ((refine Wp.cond' ⟨_, by (simp (disch := (first | (simp only [List.length_set, hl]; omega) | omega | rfl)) only [then_normal, then_exit, then_ret, inBlock_normal, inBlock_ret, inBlock_exit, inBlock_other, WOps_nil, WOps_pick', WPick_bool, WOps_nilCheck', WNil_ptr, WOps_store', WSt_some, WOps_guard', WGd_tt, WGd_ff, WGd_tf, WGd_ft, gval_some, nthD_zero, nthD_succ, WOps_move, WOps_assign, WOps_alloc, WOps_box, WOps_build, WOps_buildSlice, WOps_load, WOps_binOp, WOps_unOp, WOps_convert, WOps_makeSlice, WOps_fieldAddr, WOps_field, WOps_indexAddr, WOps_index, WOps_extract, WOps_builtin, WOps_call, WV_some, WH_some, WH_with, aEval_tmp, aEval_const, aEval_global, aEval_func, aPut_some, aPut_none, List.length_set, bin_add, bin_sub, bin_mul, bin_and, bin_or, bin_eql, bin_neq, bin_lss, bin_leq, bin_gtr, bin_geq, bin_shl, bin_shr, bne_self_eq_false, beq_self_eq_true, un_not, un_neg, List.map_cons, List.map_nil, if_true, if_false, Bool.not_true, Bool.not_false, Bool.false_eq_true, reduceIte, decide_true, decide_false, Int.reduceLT, Int.reduceLE, Int.reduceMul, Int.reduceAdd, Int.reduceSub, Option.map_some, Option.map_none, sl_eq, sl_ne, wrap_i64, h0]; rfl), ?_, ?_⟩ <;> intro hb <;> simp only [beq_iff_eq, bne_iff_ne, ne_eq, decide_eq_true_eq, decide_eq_false_iff_not, beq_eq_false_iff_ne, bne_eq_false_iff_eq, Bool.not_eq_true', Bool.not_eq_false'] at hb))
  all_goals
    simp (disch := (simp only [List.length_set, *]; omega)) only [aRes_one Try.results105, sl_eq, sl_ne]
    simp [*]
end Go.Proofs.Ytanknjpcgceccaa

namespace Go.Proofs.Ytanknjpcgceccaa
open Go Go.AM
set_option linter.unusedSimpArgs false
set_option maxRecDepth 100000
theorem i5 : Try.prog.info? 5 = some Try.t5 := by kernel_rfl
theorem i30 : Try.prog.info? 24 = some Try.t24 := by kernel_rfl
theorem small_of {n : Nat} (h : n ≤ 70368744177664) : small n = true := ble_iff.2 h
theorem builtin_append {h : Heap} {s x : Value} {a b : TypeId} : aBuiltin Try.prog h .append [a, b] [s, x] = aAppend Try.prog h a b s x := rfl
def beB (v : Int) (k : Nat) : Value := .int .u8 (IntKind.u8.wrap (v.fdiv (2 ^ (min (8 * (k : Int)).toNat IntKind.u64.bits))))
def beTo (v : Int) : Nat → List Value
  | 0 => []
  | k + 1 => beB v k :: beTo v k
theorem beTo_length (v : Int) : ∀ k, (beTo v k).length = k
  | 0 => rfl
  | k + 1 => by simp [beTo, beTo_length v k]
theorem conv_int {h : Heap} {s t : TypeId} {d : TypeDesc} {k k' : IntKind} {n : Int} (hs : Try.prog.underlying s = some d) (ht : Try.prog.underlying t = some (.int k)) : aConv Try.prog h s t (.int k' n) = some (.int k (k.wrap n), h) := by
  simp only [aConv, hs, ht]
theorem getElem_map {xs : List Int} {k : IntKind} {j : Nat} (hj : j < (xs.map (Value.int k)).length) : (xs.map (Value.int k))[j] = .int k (xs[j]'(by simpa using hj)) := by simp
theorem fits_am (n : Int) (hn : n = 4 ∨ n = 8) (xs : List Int) (hx : n = 4 → ∀ x ∈ xs, 0 ≤ x ∧ x < 4294967296) (lv : Value) (h : Heap) (hr : Row h lv (xs.map (Value.int .u64))) (hlen : xs.length ≤ 70368744177664) :
    Cl Try.prog 103 [.int .i64 n, lv] h fun v h' => v = .bool true ∧ h' = h := by
  refine Cl.enter Try.func103 rfl 26 Try.ntmps103 (by simp) ?_
  intro env hl ha
  have h0 : sl env 0 = .int .i64 n := ha 0 (by simp)
  have h1 : sl env 1 = lv := ha 1 (by simp)
  clear ha
  repeat (first | (with_reducible refine Wp.st ?_; simp only [wS]) | with_reducible refine Wp.drawS (by decide +kernel) ?_ | simp (disch := (first | (simp only [List.length_set, hl]; omega) | (simp only [List.length_set, el]; omega) | omega | rfl)) only [walkA, walkB, bne_self_eq_false, beq_self_eq_true, Option.map_some, Option.map_none, reduceIte, decide_true, decide_false, Int.reduceLT, Int.reduceLE, Int.reduceMul, Int.reduceAdd, Int.reduceSub, h0, h1])
  refine (size_am n h).mono ?_
  rintro v h' ⟨rfl, rfl⟩
  have e1 : decide (n = 1 ∨ n = 2 ∨ n = 4 ∨ n = 8) = true := by simp; omega
  repeat (first | (with_reducible refine Wp.st ?_; simp only [wS]) | with_reducible refine Wp.drawS (by decide +kernel) ?_ | simp (disch := (first | (simp only [List.length_set, hl]; omega) | (simp only [List.length_set, el]; omega) | omega | rfl)) only [walkA, walkB, bne_self_eq_false, beq_self_eq_true, Option.map_some, Option.map_none, reduceIte, decide_true, decide_false, Int.reduceLT, Int.reduceLE, Int.reduceMul, Int.reduceAdd, Int.reduceSub, h0, h1, e1])
  refine Wp.cond_false (by (simp (disch := (first | (simp only [List.length_set, hl]; omega) | (simp only [List.length_set, el]; omega) | omega | rfl)) only [sL, aEval_tmp])) ?_
  have hb := hr.builtin (P := Try.prog) Try.underlying164
  repeat (first | (with_reducible refine Wp.st ?_; simp only [wS]) | with_reducible refine Wp.drawS (by decide +kernel) ?_ | simp (disch := (first | (simp only [List.length_set, hl]; omega) | (simp only [List.length_set, el]; omega) | omega | rfl)) only [walkA, walkB, bne_self_eq_false, beq_self_eq_true, Option.map_some, Option.map_none, reduceIte, decide_true, decide_false, Int.reduceLT, Int.reduceLE, Int.reduceMul, Int.reduceAdd, Int.reduceSub, h0, h1, hb])
  refine Wp.loop (fun m e hh => ∃ j : Nat, j + m = xs.length ∧ e.length = 26 ∧ sl e 0 = .int .i64 n ∧ sl e 10 = lv ∧ sl e 11 = .int .i64 xs.length ∧ sl e 12 = .int .i64 j ∧ hh = h') xs.length
    ⟨0, by omega, by simp [hl], by (simp (disch := (first | (simp only [List.length_set, hl]; omega) | (simp only [List.length_set, el]; omega) | omega | rfl)) only [sL, h0]), by (simp (disch := (first | (simp only [List.length_set, hl]; omega) | (simp only [List.length_set, el]; omega) | omega | rfl)) only [sL, h1]), by (simp (disch := (first | (simp only [List.length_set, hl]; omega) | (simp only [List.length_set, el]; omega) | omega | rfl)) only [sL, List.length_map]), by (simp (disch := (first | (simp only [List.length_set, hl]; omega) | (simp only [List.length_set, el]; omega) | omega | rfl)) only [sL]); rfl, rfl⟩ ?_
  rintro m e hh ⟨j, hj, el, e0, e10, e11, e12, rfl⟩
  repeat (first | (with_reducible refine Wp.st ?_; simp only [wS]) | with_reducible refine Wp.drawS (by decide +kernel) ?_ | simp (disch := (first | (simp only [List.length_set, hl]; omega) | (simp only [List.length_set, el]; omega) | omega | rfl)) only [walkA, walkB, bne_self_eq_false, beq_self_eq_true, Option.map_some, Option.map_none, reduceIte, decide_true, decide_false, Int.reduceLT, Int.reduceLE, Int.reduceMul, Int.reduceAdd, Int.reduceSub, e0, e10, e11, e12])
  by_cases hlt : j < xs.length
  · refine Wp.cond_true (by (simp (disch := (first | (simp only [List.length_set, hl]; omega) | (simp only [List.length_set, el]; omega) | omega | rfl)) only [sL, aEval_tmp]); simpa using hlt) ?_
    obtain ⟨k, off, hx1, hx2⟩ := hr.index (P := Try.prog) Try.underlying164 i30 rfl (j := j) (kd := .i64) (by simpa using hlt)
    rw [← aLoad_one (P := Try.prog) Try.underlying24 (by simp) (by simp), getElem_map] at hx2
    rcases hn with rfl | rfl
    · have hxj := hx rfl xs[j] (List.getElem_mem hlt)
      have hsh : (xs[j]).fdiv (2 ^ (min (32 : Int).toNat IntKind.u64.bits)) = 0 := by
        rw [show (min (32 : Int).toNat IntKind.u64.bits) = 32 by decide, Int.fdiv_eq_ediv_of_nonneg _ (by decide)]
        omega
      repeat (first | (with_reducible refine Wp.st ?_; simp only [wS]) | with_reducible refine Wp.drawS (by decide +kernel) ?_ | simp (disch := (first | (simp only [List.length_set, hl]; omega) | (simp only [List.length_set, el]; omega) | omega | rfl)) only [walkA, walkB, bne_self_eq_false, beq_self_eq_true, Option.map_some, Option.map_none, reduceIte, decide_true, decide_false, Int.reduceLT, Int.reduceLE, Int.reduceMul, Int.reduceAdd, Int.reduceSub, e0, e10, e11, e12, hx1, hx2, hsh])
      refine Wp.cond_false (by (simp (disch := (first | (simp only [List.length_set, hl]; omega) | (simp only [List.length_set, el]; omega) | omega | rfl)) only [sL, aEval_tmp])) ?_
      repeat (first | (with_reducible refine Wp.st ?_; simp only [wS]) | with_reducible refine Wp.drawS (by decide +kernel) ?_ | simp (disch := (first | (simp only [List.length_set, hl]; omega) | (simp only [List.length_set, el]; omega) | omega | rfl)) only [walkA, walkB, bne_self_eq_false, beq_self_eq_true, Option.map_some, Option.map_none, reduceIte, decide_true, decide_false, Int.reduceLT, Int.reduceLE, Int.reduceMul, Int.reduceAdd, Int.reduceSub, e0, e10, e11, e12])
      exact ⟨m - 1, by omega, j + 1, by omega, by simp [el], by (simp (disch := (first | (simp only [List.length_set, hl]; omega) | (simp only [List.length_set, el]; omega) | omega | rfl)) only [sL, e0]), by (simp (disch := (first | (simp only [List.length_set, hl]; omega) | (simp only [List.length_set, el]; omega) | omega | rfl)) only [sL, e10]), by (simp (disch := (first | (simp only [List.length_set, hl]; omega) | (simp only [List.length_set, el]; omega) | omega | rfl)) only [sL, e11]), by (simp (disch := (first | (simp only [List.length_set, hl]; omega) | (simp only [List.length_set, el]; omega) | omega | rfl)) only [sL, Int.natCast_add]); rfl, trivial⟩
    · repeat (first | (with_reducible refine Wp.st ?_; simp only [wS]) | with_reducible refine Wp.drawS (by decide +kernel) ?_ | simp (disch := (first | (simp only [List.length_set, hl]; omega) | (simp only [List.length_set, el]; omega) | omega | rfl)) only [walkA, walkB, bne_self_eq_false, beq_self_eq_true, Option.map_some, Option.map_none, reduceIte, decide_true, decide_false, Int.reduceLT, Int.reduceLE, Int.reduceMul, Int.reduceAdd, Int.reduceSub, e0, e10, e11, e12, hx1, hx2])
      refine Wp.cond_false (by (simp (disch := (first | (simp only [List.length_set, hl]; omega) | (simp only [List.length_set, el]; omega) | omega | rfl)) only [sL, aEval_tmp])) ?_
      repeat (first | (with_reducible refine Wp.st ?_; simp only [wS]) | with_reducible refine Wp.drawS (by decide +kernel) ?_ | simp (disch := (first | (simp only [List.length_set, hl]; omega) | (simp only [List.length_set, el]; omega) | omega | rfl)) only [walkA, walkB, bne_self_eq_false, beq_self_eq_true, Option.map_some, Option.map_none, reduceIte, decide_true, decide_false, Int.reduceLT, Int.reduceLE, Int.reduceMul, Int.reduceAdd, Int.reduceSub, e0, e10, e11, e12])
      exact ⟨m - 1, by omega, j + 1, by omega, by simp [el], by (simp (disch := (first | (simp only [List.length_set, hl]; omega) | (simp only [List.length_set, el]; omega) | omega | rfl)) only [sL, e0]), by (simp (disch := (first | (simp only [List.length_set, hl]; omega) | (simp only [List.length_set, el]; omega) | omega | rfl)) only [sL, e10]), by (simp (disch := (first | (simp only [List.length_set, hl]; omega) | (simp only [List.length_set, el]; omega) | omega | rfl)) only [sL, e11]), by (simp (disch := (first | (simp only [List.length_set, hl]; omega) | (simp only [List.length_set, el]; omega) | omega | rfl)) only [sL, Int.natCast_add]); rfl, trivial⟩
  · refine Wp.cond_false (by (simp (disch := (first | (simp only [List.length_set, hl]; omega) | (simp only [List.length_set, el]; omega) | omega | rfl)) only [sL, aEval_tmp]); simpa using hlt) ?_
    repeat (first | (with_reducible refine Wp.st ?_; simp only [wS]) | with_reducible refine Wp.drawS (by decide +kernel) ?_ | simp (disch := (first | (simp only [List.length_set, hl]; omega) | (simp only [List.length_set, el]; omega) | omega | rfl)) only [walkA, walkB, bne_self_eq_false, beq_self_eq_true, Option.map_some, Option.map_none, reduceIte, decide_true, decide_false, Int.reduceLT, Int.reduceLE, Int.reduceMul, Int.reduceAdd, Int.reduceSub, e0, e10, e11, e12])
    (simp (disch := (first | (simp only [List.length_set, hl]; omega) | (simp only [List.length_set, el]; omega) | omega | rfl)) only [aRes_one Try.results103, sL, and_self, and_true, true_and])
theorem slice_one {h : Heap} {t : TypeId} {e : TypeId} {inf : TypeInfo} {z v : Value} (hu : Try.prog.underlying t = some (.slice e)) (hi : Try.prog.info? e = some inf) (hz : inf.zero = some z) (hs : inf.size = 1) (hzs : z.cells = #[z]) (hp : plainB 4 z = true) (hv : v.cells = #[v]) (h1 : v.oneCell' = true) :
    aBuildSlice Try.prog h t 1 [(0, v)] = some (.slice (some ⟨h.next, 0, none⟩) 1 1, h.push (.cells [v] e false)) := by
  have e1 : Nat.ble 1 1048576 = true := rfl
  have e2 : Nat.ble 1 1 = true := rfl
  simp [aBuildSlice, hu, hi, hz, hs, hzs, hp, zeroRow, aFill, hv, setL, aNew, h1, e1, e2]
theorem push_one {h : Heap} {v x : Value} {vs : List Value} (b : Buf h 5 v vs) (h1 : x.oneCell' = true) (hsm : vs.length ≤ 70368744177000) :
    ∃ v' h', aAppend Try.prog (h.push (.cells [x] 5 false)) 22 22 v (.slice (some ⟨h.next, 0, none⟩) 1 1) = some (v', h') ∧ Buf h' 5 v' (vs ++ [x]) ∧ Same h h' (bufBlk v) ∧ ∀ j, bufBlk v' j → bufBlk v j ∨ h.next ≤ j := by
  have hs0 : Same h (h.push (.cells [x] 5 false)) noS := Same.push _ _ _
  have b' : Buf (h.push (.cells [x] 5 false)) 5 v vs := b.same hs0 (fun _ _ hh => hh)
  have hr : Row (h.push (.cells [x] 5 false)) (.slice (some ⟨h.next, 0, none⟩) 1 1) [x] := Row.whole (cs := [x]) Heap.get_push_new
  obtain ⟨v', h', ha, hb, hs, hf⟩ := Buf.append (P := Try.prog) b' Try.underlying22 i5 rfl rfl rfl rfl (hr.src Try.underlying22 (by simp) rfl) rfl (by simp [h1]) (small_of (by simp; omega)) (small_of (by simp [Try.t5]; omega))
  exact ⟨v', h', ha, hb, hs0.trans hs (fun _ hh => hh.elim) (fun _ _ hh => hh), fun j hj => (hf j hj).imp id (fun hh => Nat.le_trans (Nat.le_succ _) (by simpa using hh))⟩
theorem oneB (v : Int) (k : Nat) : (beB v k).oneCell' = true := rfl
theorem flat_length (n : Nat) : ∀ xs : List Int, (xs.flatMap (fun x => beTo x n)).length = n * xs.length
  | [] => rfl
  | x :: xs => by simp [flat_length n xs, beTo_length, Nat.mul_add, Nat.add_comm]
theorem take_succ_flat (n : Nat) (xs : List Int) (j : Nat) (hj : j < xs.length) : (xs.take (j + 1)).flatMap (fun x => beTo x n) = (xs.take j).flatMap (fun x => beTo x n) ++ beTo xs[j] n := by
  rw [List.take_succ_eq_append_getElem hj, List.flatMap_append]; simp
theorem putBe_am (n : Nat) (hn : n = 4 ∨ n = 8) (xs : List Int) (hx : n = 4 → ∀ x ∈ xs, 0 ≤ x ∧ x < 4294967296) (bv lv : Value) (bs : List Value) (h : Heap) (hb : Row h bv bs) (hb1 : bs.all Value.oneCell' = true)
    (hr : Row h lv (xs.map (Value.int .u64))) (hlen : bs.length + 8 * xs.length ≤ 1000000000) :
    Cl Try.prog 96 [bv, .int .i64 n, lv] h fun v h' => ∃ out, v = .tuple #[out, .int .i64 0] ∧ Buf h' 5 out (bs ++ xs.flatMap (fun x => beTo x n)) ∧ Same h h' noS ∧ ∀ j, bufBlk out j → h.next ≤ j := by
  refine Cl.enter Try.func96 rfl 40 Try.ntmps96 (by simp) ?_
  intro env hl ha
  have h0 : sl env 0 = bv := ha 0 (by simp)
  have h1 : sl env 1 = .int .i64 n := ha 1 (by simp)
  have h2 : sl env 2 = lv := ha 2 (by simp)
  clear ha
  repeat (first | (with_reducible refine Wp.st ?_; simp only [wS]) | with_reducible refine Wp.drawS (by decide +kernel) ?_ | simp (disch := (first | (simp only [List.length_set, hl]; omega) | (simp only [List.length_set, el]; omega) | omega | rfl)) only [walkA, walkB, bne_self_eq_false, beq_self_eq_true, Option.map_some, Option.map_none, reduceIte, decide_true, decide_false, Int.reduceLT, Int.reduceLE, Int.reduceMul, Int.reduceAdd, Int.reduceSub, h0, h1, h2])
  refine (fits_am n (by omega) xs (fun e => hx (by omega)) lv h hr (by omega)).mono ?_
  rintro v h' ⟨rfl, rfl⟩
  repeat (first | (with_reducible refine Wp.st ?_; simp only [wS]) | with_reducible refine Wp.drawS (by decide +kernel) ?_ | simp (disch := (first | (simp only [List.length_set, hl]; omega) | (simp only [List.length_set, el]; omega) | omega | rfl)) only [walkA, walkB, bne_self_eq_false, beq_self_eq_true, Option.map_some, Option.map_none, reduceIte, decide_true, decide_false, Int.reduceLT, Int.reduceLE, Int.reduceMul, Int.reduceAdd, Int.reduceSub, h0, h1, h2])
  refine Wp.cond_false (by (simp (disch := (first | (simp only [List.length_set, hl]; omega) | (simp only [List.length_set, el]; omega) | omega | rfl)) only [sL, aEval_tmp])) ?_
  obtain ⟨v1, hh1, ha, hbuf, hsame, hfr⟩ := Buf.append (P := Try.prog) (v := .slice none 0 0) (vs := []) (.inl ⟨rfl, rfl⟩) Try.underlying22 i5 rfl rfl rfl rfl
    (hb.src Try.underlying22 (by simp) rfl) rfl hb1 (small_of (by simp; omega)) (small_of (by simp [Try.t5]; omega))
  have hnil : ∀ j, ¬ bufBlk (.slice none 0 0) j := by rintro j ⟨o, m, d, hh⟩; cases hh
  have hrow := hr.same hsame (by rintro a n c hv _ hh; exact hnil _ hh)
  have hlv := hrow.builtin (P := Try.prog) Try.underlying164
  have hsame0 : Same h' hh1 noS := hsame.mono (fun j hh => (hnil j hh).elim)
  have hfr0 : ∀ j, bufBlk v1 j → h'.next ≤ j := fun j hj => (hfr j hj).resolve_left (hnil j)
  clear hfr hsame
  repeat (first | (with_reducible refine Wp.st ?_; simp only [wS]) | with_reducible refine Wp.drawS (by decide +kernel) ?_ | simp (disch := (first | (simp only [List.length_set, hl]; omega) | (simp only [List.length_set, el]; omega) | omega | rfl)) only [walkA, walkB, bne_self_eq_false, beq_self_eq_true, Option.map_some, Option.map_none, reduceIte, decide_true, decide_false, Int.reduceLT, Int.reduceLE, Int.reduceMul, Int.reduceAdd, Int.reduceSub, h0, h1, h2, builtin_append, ha, hlv])
  refine Wp.loop (fun m e hh => ∃ j out, j + m = xs.length ∧ e.length = 40 ∧ sl e 1 = .int .i64 n ∧ sl e 8 = out ∧ sl e 18 = lv ∧ sl e 19 = .int .i64 xs.length ∧ sl e 20 = .int .i64 j ∧
      Buf hh 5 out (bs ++ (xs.take j).flatMap (fun x => beTo x n)) ∧ Same h' hh noS ∧ ∀ j, bufBlk out j → h'.next ≤ j) xs.length
    ⟨0, v1, by omega, by simp [hl], by (simp (disch := (first | (simp only [List.length_set, hl]; omega) | (simp only [List.length_set, el]; omega) | omega | rfl)) only [sL, h1]), by (simp (disch := (first | (simp only [List.length_set, hl]; omega) | (simp only [List.length_set, el]; omega) | omega | rfl)) only [sL]), by (simp (disch := (first | (simp only [List.length_set, hl]; omega) | (simp only [List.length_set, el]; omega) | omega | rfl)) only [sL]), by (simp (disch := (first | (simp only [List.length_set, hl]; omega) | (simp only [List.length_set, el]; omega) | omega | rfl)) only [sL, List.length_map]), by (simp (disch := (first | (simp only [List.length_set, hl]; omega) | (simp only [List.length_set, el]; omega) | omega | rfl)) only [sL]); rfl, by simpa using hbuf, hsame0, hfr0⟩ ?_
  clear hbuf hsame0 hfr0 ha hlv hrow h0 h1 h2 hl
  rintro m e hh ⟨j, out, hj, el, e1, e8, e18, e19, e20, hbuf, hsame, hfr⟩
  repeat (first | (with_reducible refine Wp.st ?_; simp only [wS]) | with_reducible refine Wp.drawS (by decide +kernel) ?_ | simp (disch := (first | (simp only [List.length_set, hl]; omega) | (simp only [List.length_set, el]; omega) | omega | rfl)) only [walkA, walkB, bne_self_eq_false, beq_self_eq_true, Option.map_some, Option.map_none, reduceIte, decide_true, decide_false, Int.reduceLT, Int.reduceLE, Int.reduceMul, Int.reduceAdd, Int.reduceSub, e1, e8, e18, e19, e20])
  by_cases hlt : j < xs.length
  · refine Wp.cond_true (by (simp (disch := (first | (simp only [List.length_set, hl]; omega) | (simp only [List.length_set, el]; omega) | omega | rfl)) only [sL, aEval_tmp]); simpa using hlt) ?_
    have hrow := hr.same hsame (fun _ _ _ _ _ hh => hh)
    obtain ⟨k, off, hx1, hx2⟩ := hrow.index (P := Try.prog) Try.underlying164 i30 rfl (j := j) (kd := .i64) (by simpa using hlt)
    rw [← aLoad_one (P := Try.prog) Try.underlying24 (by simp) (by simp), getElem_map] at hx2
    repeat (first | (with_reducible refine Wp.st ?_; simp only [wS]) | with_reducible refine Wp.drawS (by decide +kernel) ?_ | simp (disch := (first | (simp only [List.length_set, hl]; omega) | (simp only [List.length_set, el]; omega) | omega | rfl)) only [walkA, walkB, bne_self_eq_false, beq_self_eq_true, Option.map_some, Option.map_none, reduceIte, decide_true, decide_false, Int.reduceLT, Int.reduceLE, Int.reduceMul, Int.reduceAdd, Int.reduceSub, e1, e8, e18, e19, e20, hx1, hx2])
    refine Wp.loop (fun i e' hh' => ∃ cur out', e'.length = 40 ∧ sl e' 1 = .int .i64 n ∧ sl e' 8 = out' ∧ sl e' 10 = .int .u64 xs[j] ∧ sl e' 11 = .int .i64 ((i : Int) - 1) ∧ sl e' 18 = lv ∧ sl e' 19 = .int .i64 xs.length ∧ sl e' 20 = .int .i64 j ∧ i ≤ n ∧
        cur ++ beTo xs[j] i = bs ++ (xs.take (j + 1)).flatMap (fun x => beTo x n) ∧ Buf hh' 5 out' cur ∧ Same h' hh' noS ∧ ∀ j, bufBlk out' j → h'.next ≤ j) n
      ⟨bs ++ (xs.take j).flatMap (fun x => beTo x n), out, by simp [el], by (simp (disch := (first | (simp only [List.length_set, hl]; omega) | (simp only [List.length_set, el]; omega) | omega | rfl)) only [sL, e1]), by (simp (disch := (first | (simp only [List.length_set, hl]; omega) | (simp only [List.length_set, el]; omega) | omega | rfl)) only [sL, e8]), by (simp (disch := (first | (simp only [List.length_set, hl]; omega) | (simp only [List.length_set, el]; omega) | omega | rfl)) only [sL]), by (simp (disch := (first | (simp only [List.length_set, hl]; omega) | (simp only [List.length_set, el]; omega) | omega | rfl)) only [sL]), by (simp (disch := (first | (simp only [List.length_set, hl]; omega) | (simp only [List.length_set, el]; omega) | omega | rfl)) only [sL, e18]), by (simp (disch := (first | (simp only [List.length_set, hl]; omega) | (simp only [List.length_set, el]; omega) | omega | rfl)) only [sL, e19]), by (simp (disch := (first | (simp only [List.length_set, hl]; omega) | (simp only [List.length_set, el]; omega) | omega | rfl)) only [sL, e20]), by omega, by rw [take_succ_flat n xs j hlt, List.append_assoc], hbuf, hsame, hfr⟩ ?_
    clear hbuf hsame hfr hrow hx1 hx2 e1 e8 e18 e19 e20 el e hh out
    rintro i e hh ⟨cur, out, el, e1, e8, e10, e11, e18, e19, e20, hi, hcur, hbuf, hsame, hfr⟩
    repeat (first | (with_reducible refine Wp.st ?_; simp only [wS]) | with_reducible refine Wp.drawS (by decide +kernel) ?_ | simp (disch := (first | (simp only [List.length_set, hl]; omega) | (simp only [List.length_set, el]; omega) | omega | rfl)) only [walkA, walkB, bne_self_eq_false, beq_self_eq_true, Option.map_some, Option.map_none, reduceIte, decide_true, decide_false, Int.reduceLT, Int.reduceLE, Int.reduceMul, Int.reduceAdd, Int.reduceSub, e1, e8, e10, e11, e18, e19, e20])
    cases i with
    | zero =>
      refine Wp.cond_false (by (simp (disch := (first | (simp only [List.length_set, hl]; omega) | (simp only [List.length_set, el]; omega) | omega | rfl)) only [sL, aEval_tmp]); rfl) ?_
      repeat (first | (with_reducible refine Wp.st ?_; simp only [wS]) | with_reducible refine Wp.drawS (by decide +kernel) ?_ | simp (disch := (first | (simp only [List.length_set, hl]; omega) | (simp only [List.length_set, el]; omega) | omega | rfl)) only [walkA, walkB, bne_self_eq_false, beq_self_eq_true, Option.map_some, Option.map_none, reduceIte, decide_true, decide_false, Int.reduceLT, Int.reduceLE, Int.reduceMul, Int.reduceAdd, Int.reduceSub, e1, e8, e10, e11, e18, e19, e20])
      refine ⟨m - 1, by omega, j + 1, out, by omega, by simp [el], by (simp (disch := (first | (simp only [List.length_set, hl]; omega) | (simp only [List.length_set, el]; omega) | omega | rfl)) only [sL, e1]), by (simp (disch := (first | (simp only [List.length_set, hl]; omega) | (simp only [List.length_set, el]; omega) | omega | rfl)) only [sL, e8]), by (simp (disch := (first | (simp only [List.length_set, hl]; omega) | (simp only [List.length_set, el]; omega) | omega | rfl)) only [sL, e18]), by (simp (disch := (first | (simp only [List.length_set, hl]; omega) | (simp only [List.length_set, el]; omega) | omega | rfl)) only [sL, e19]), by (simp (disch := (first | (simp only [List.length_set, hl]; omega) | (simp only [List.length_set, el]; omega) | omega | rfl)) only [sL, Int.natCast_add]); rfl, ?_, hsame, hfr⟩
      rw [← hcur]; simpa [beTo] using hbuf
    | succ i =>
      have e11' : sl e 11 = .int .i64 i := by rw [e11]; congr 1; omega
      refine Wp.cond_true (by (simp (disch := (first | (simp only [List.length_set, hl]; omega) | (simp only [List.length_set, el]; omega) | omega | rfl)) only [sL, aEval_tmp]); simp) ?_
      obtain ⟨v2, h2, hap, hb2, hs2, hf2⟩ := push_one (x := beB xs[j] i) hbuf (oneB _ _) (by
        have := congrArg List.length hcur
        simp only [List.length_append, beTo_length, flat_length, List.length_take] at this
        rcases hn with rfl | rfl <;> omega)
      have hsl := slice_one (h := hh) (v := beB xs[j] i) Try.underlying22 i5 rfl rfl rfl rfl rfl rfl
      simp only [beB] at hsl hap
      have hcv := fun x hx => conv_int (h := hx) (k' := .u64) (n := x) Try.underlying24 Try.underlying5
      repeat (first | (with_reducible refine Wp.st ?_; simp only [wS]) | with_reducible refine Wp.drawS (by decide +kernel) ?_ | simp (disch := (first | (simp only [List.length_set, hl]; omega) | (simp only [List.length_set, el]; omega) | omega | rfl)) only [walkA, walkB, bne_self_eq_false, beq_self_eq_true, Option.map_some, Option.map_none, reduceIte, decide_true, decide_false, Int.reduceLT, Int.reduceLE, Int.reduceMul, Int.reduceAdd, Int.reduceSub, e1, e8, e10, e11', e18, e19, e20, builtin_append, hsl, hap, hcv])
      refine ⟨i, by omega, cur ++ [beB xs[j] i], v2, by simp [el], by (simp (disch := (first | (simp only [List.length_set, hl]; omega) | (simp only [List.length_set, el]; omega) | omega | rfl)) only [sL, e1]), by (simp (disch := (first | (simp only [List.length_set, hl]; omega) | (simp only [List.length_set, el]; omega) | omega | rfl)) only [sL]), by (simp (disch := (first | (simp only [List.length_set, hl]; omega) | (simp only [List.length_set, el]; omega) | omega | rfl)) only [sL, e10]), by (simp (disch := (first | (simp only [List.length_set, hl]; omega) | (simp only [List.length_set, el]; omega) | omega | rfl)) only [sL]), by (simp (disch := (first | (simp only [List.length_set, hl]; omega) | (simp only [List.length_set, el]; omega) | omega | rfl)) only [sL, e18]), by (simp (disch := (first | (simp only [List.length_set, hl]; omega) | (simp only [List.length_set, el]; omega) | omega | rfl)) only [sL, e19]), by (simp (disch := (first | (simp only [List.length_set, hl]; omega) | (simp only [List.length_set, el]; omega) | omega | rfl)) only [sL, e20]), by omega, by rw [← hcur]; simp [beTo], hb2, ?_, ?_⟩
      · exact hsame.trans hs2 (fun _ hh => hh) (fun b hb hh => absurd (hfr b hh) (by omega))
      · exact fun b hb => (hf2 b hb).elim (hfr b) (fun hh => Nat.le_trans hsame.1 hh)
  · refine Wp.cond_false (by (simp (disch := (first | (simp only [List.length_set, hl]; omega) | (simp only [List.length_set, el]; omega) | omega | rfl)) only [sL, aEval_tmp]); simpa using hlt) ?_
    repeat (first | (with_reducible refine Wp.st ?_; simp only [wS]) | with_reducible refine Wp.drawS (by decide +kernel) ?_ | simp (disch := (first | (simp only [List.length_set, hl]; omega) | (simp only [List.length_set, el]; omega) | omega | rfl)) only [walkA, walkB, bne_self_eq_false, beq_self_eq_true, Option.map_some, Option.map_none, reduceIte, decide_true, decide_false, Int.reduceLT, Int.reduceLE, Int.reduceMul, Int.reduceAdd, Int.reduceSub, e1, e8, e18, e19, e20])
    simp (disch := (first | (simp only [List.length_set, hl]; omega) | (simp only [List.length_set, el]; omega) | omega | rfl)) only [aRes_two Try.results96, sL]
    have hjl : j = xs.length := by omega
    subst hjl
    exact ⟨out, rfl, by simpa using hbuf, hsame, hfr⟩
end Go.Proofs.Ytanknjpcgceccaa

namespace Go.Proofs.Ytanknjpcgceccaa
open Go Go.AM
set_option linter.unusedSimpArgs false
set_option maxRecDepth 100000
theorem i27 : Try.prog.info? 22 = some Try.t22 := by kernel_rfl
theorem i44 : Try.prog.info? 23 = some Try.t23 := by kernel_rfl
theorem i4 : Try.prog.info? 4 = some Try.t4 := by kernel_rfl
def WR (h : Heap) (w : Nat) (T : TypeId) (v : Value) (bs : List Value) : Prop := h.get w = some (.cells [v] T false) ∧ Buf h 5 v bs ∧ ¬ bufBlk v w
def own (v : Value) (w : Nat) : Nat → Prop := fun j => j = w ∨ bufBlk v j
def WQ (h : Heap) (w : Nat) (T : TypeId) (v : Value) (bs : List Value) : Value → Heap → Prop := fun r h' => r = .tuple #[] ∧ ∃ v', WR h' w T v' bs ∧ Same h h' (own v w) ∧ ∀ j, own v' w j → own v w j ∨ h.next ≤ j
theorem buf_slice {h : Heap} {el : TypeId} {v : Value} {vs : List Value} (b : Buf h el v vs) : ∃ a n c, v = .slice a n c := by
  rcases b with ⟨rfl, _⟩ | ⟨_, k, cs, e, ro, rfl, _⟩ | ⟨k, cap, rfl, _⟩ <;> exact ⟨_, _, _, rfl⟩
theorem loadW {h : Heap} {w : Nat} {T : TypeId} {v : Value} (hw : h.get w = some (.cells [v] T false)) : aLoad Try.prog h 22 (.pointer (some ⟨w, 0, none⟩)) = some v := by
  rw [aLoad_one Try.underlying22 (by simp) (by simp), rd1, hw]; rfl
theorem storeW {h : Heap} {w : Nat} {T : TypeId} {v x : Value} {a : Option Addr} {n c : Nat} (hw : h.get w = some (.cells [v] T false)) (hx : x = .slice a n c) : aStore Try.prog h 22 (.pointer (some ⟨w, 0, none⟩)) x = some (h.set w (.cells [x] T false)) := by
  subst hx
  have e1 : (Value.slice a n c).cells = #[.slice a n c] := rfl
  have e2 : Nat.ble (0 + 1) 1 = true := rfl
  have e3 : Nat.beq 1 (Try.t22).size = true := rfl
  have e4 : (Value.slice a n c).oneCell' = true := rfl
  simp [aStore, i27, wrN, hw, e1, e2, e3, e4, setL]
theorem field65 {w : Nat} : aFieldAddr Try.prog 134 (.pointer (some ⟨w, 0, none⟩)) 0 = some (.pointer (some ⟨w, 0, none⟩)) := by
  kernel_rfl
theorem WR.put {h h' : Heap} {w : Nat} {T : TypeId} {v out : Value} {bs bs' : List Value} (r : WR h w T v bs) (hs : Same h h' (bufBlk v)) (hb : Buf h' 5 out bs') (hf : ∀ j, bufBlk out j → bufBlk v j ∨ h.next ≤ j) :
    aStore Try.prog h' 22 (.pointer (some ⟨w, 0, none⟩)) out = some (h'.set w (.cells [out] T false)) ∧ WQ h w T v bs' (.tuple #[]) (h'.set w (.cells [out] T false)) := by
  obtain ⟨hg, hb0, hn⟩ := r
  have hg' := hs.2 w _ hg hn
  obtain ⟨a, n, c, hx⟩ := buf_slice hb
  have hno : ¬ bufBlk out w := fun hh => (hf w hh).elim hn (fun h2 => absurd (Heap.get_lt hg) (by omega))
  have hset : Same h' (h'.set w (.cells [out] T false)) (fun j => j = w) := Same.set _ _ _ rfl
  refine ⟨storeW hg' hx, rfl, out, ⟨Heap.get_set_eq hg', hb.same hset (fun j hj e => hno (by subst e; exact hj)), hno⟩, ?_, ?_⟩
  · exact hs.trans hset (fun j hj => .inr hj) (fun j _ e => .inl e)
  · rintro j (rfl | hj)
    · exact .inl (.inl rfl)
    · exact (hf j hj).imp .inr id
theorem WQ.trans {h h' : Heap} {w : Nat} {T : TypeId} {v v' : Value} {bs' : List Value} (hs : Same h h' (own v w)) (hf : ∀ j, own v' w j → own v w j ∨ h.next ≤ j) {r : Value} {h2 : Heap} (q : WQ h' w T v' bs' r h2) : WQ h w T v bs' r h2 := by
  obtain ⟨rfl, v2, hw2, hs2, hf2⟩ := q
  refine ⟨rfl, v2, hw2, hs.trans hs2 (fun j hj => hj) (fun j hj hh => (hf j hh).elim id (fun h2 => absurd hj (by omega))), fun j hj => (hf2 j hj).elim (hf j) (fun hh => .inr (Nat.le_trans hs.1 hh))⟩
end Go.Proofs.Ytanknjpcgceccaa

namespace Go.Proofs.Ytanknjpcgceccaa
open Go Go.AM
set_option linter.unusedSimpArgs false
set_option maxRecDepth 100000
def pad (n : Nat) : Nat := (4 - n % 4) % 4
def padB (n : Nat) : List Value := List.replicate (pad n) (.int .u8 0)
theorem len_any {lv : Value} {vs : List Value} {h0 : Heap} {t e : TypeId} (r : Row h0 lv vs) (hu : Try.prog.underlying t = some (.slice e)) (h : Heap) : aBuiltin Try.prog h .len [t] [lv] = some (.int .i64 vs.length, h) := by
  simp only [aBuiltin, r.aLen hu]
theorem pad_le (n : Nat) : pad n ≤ 3 := by unfold pad; omega
theorem padB_length (n : Nat) : (padB n).length = pad n := by simp [padB]
end Go.Proofs.Ytanknjpcgceccaa

namespace Go.Proofs.Ytanknjpcgceccaa
open Go Go.AM
set_option linter.unusedSimpArgs false
set_option maxRecDepth 100000
def Off (h : Heap) (v : Value) (w : Nat) (lv : Value) (vs : List Value) : Prop := Row h lv vs ∧ ∀ a n c, lv = .slice (some a) n c → n ≠ 0 → ¬ own v w a.block ∧ a.block < h.next
theorem Off.step {h h' : Heap} {v v' lv : Value} {w : Nat} {vs : List Value} (o : Off h v w lv vs) (hs : Same h h' (own v w)) (hf : ∀ j, own v' w j → own v w j ∨ h.next ≤ j) : Off h' v' w lv vs :=
  ⟨o.1.same hs (fun a n c e z => (o.2 a n c e z).1), fun a n c e z => ⟨fun hh => (hf _ hh).elim (o.2 a n c e z).1 (fun h2 => absurd (o.2 a n c e z).2 (by omega)), Nat.lt_of_lt_of_le (o.2 a n c e z).2 hs.1⟩⟩
theorem WR.lt {h : Heap} {w : Nat} {T : TypeId} {v : Value} {bs : List Value} (hw : WR h w T v bs) : ∀ j, own v w j → j < h.next := by
  rintro j (rfl | hj)
  · exact Heap.get_lt hw.1
  · exact hw.2.1.lt j hj
theorem Off.fresh {h : Heap} {w : Nat} {T el : TypeId} {v : Value} {bs cs : List Value} {ro : Bool} {c : Nat} (hw : WR h w T v bs) : WR (h.push (.cells cs el ro)) w T v bs ∧ Off (h.push (.cells cs el ro)) v w (.slice (some ⟨h.next, 0, none⟩) cs.length c) cs ∧ Same h (h.push (.cells cs el ro)) (own v w) := by
  have hs : Same h (h.push (.cells cs el ro)) noS := Same.push _ _ _
  refine ⟨⟨hs.2 w _ hw.1 id, hw.2.1.same hs (fun _ _ hh => hh), hw.2.2⟩, ⟨Row.whole Heap.get_push_new, ?_⟩, Same.push _ _ _⟩
  rintro a n c' hv -
  injection hv with hv; injection hv with hv; subst hv
  exact ⟨fun hh => absurd (hw.lt _ hh) (by simp), by simp⟩
theorem slice1_32 {h : Heap} {n : Int} : aBuildSlice Try.prog h 148 1 [(0, .int .u32 n)] = some (.slice (some ⟨h.next, 0, none⟩) 1 1, h.push (.cells [.int .u32 n] 23 false)) :=
  slice_one Try.underlying148 i44 rfl rfl rfl rfl rfl rfl
theorem slice1_64 {h : Heap} {n : Int} : aBuildSlice Try.prog h 164 1 [(0, .int .u64 n)] = some (.slice (some ⟨h.next, 0, none⟩) 1 1, h.push (.cells [.int .u64 n] 24 false)) :=
  slice_one Try.underlying164 i30 rfl rfl rfl rfl rfl rfl
theorem slice1_row {h : Heap} {a : Option Addr} {n c : Nat} : aBuildSlice Try.prog h 165 1 [(0, .slice a n c)] = some (.slice (some ⟨h.next, 0, none⟩) 1 1, h.push (.cells [.slice a n c] 22 false)) :=
  slice_one Try.underlying165 i27 rfl rfl rfl rfl rfl rfl
theorem u64_am (lv : Value) (xs : List Int) (w : Nat) (v : Value) (bs : List Value) (h : Heap) (hx : Off h v w lv (xs.map (Value.int .u64))) (hw : WR h w 134 v bs) (hb1 : bs.all Value.oneCell' = true) (hlen : bs.length + 8 * xs.length ≤ 1000000000) :
    Cl Try.prog 79 [.pointer (some ⟨w, 0, none⟩), lv] h (WQ h w 134 v (bs ++ xs.flatMap (fun x => beTo x 8))) := by
  refine Cl.enter Try.func79 rfl 16 Try.ntmps79 (by simp) ?_
  intro env hl ha
  have h0 : sl env 0 = .pointer (some ⟨w, 0, none⟩) := ha 0 (by simp)
  have h1 : sl env 1 = lv := ha 1 (by simp)
  clear ha
  have hld := loadW hw.1
  repeat (first | (with_reducible refine Wp.st ?_; simp only [wS]) | with_reducible refine Wp.drawS (by decide +kernel) ?_ | simp (disch := (first | (simp only [List.length_set, hl]; omega) | omega | rfl)) only [walkA, walkB, bne_self_eq_false, beq_self_eq_true, Option.map_some, Option.map_none, reduceIte, decide_true, decide_false, Int.reduceLT, Int.reduceLE, Int.reduceMul, Int.reduceAdd, Int.reduceSub, h0, h1, field65, hld])
  refine (putBe_am 8 (.inr rfl) xs (by omega) v lv bs h hw.2.1.row hb1 hx.1 hlen).mono ?_
  rintro r h' ⟨out, rfl, hb, hs, hf⟩
  obtain ⟨hst, hq⟩ := hw.put (hs.mono (fun _ hh => hh.elim)) hb (fun j hj => .inr (hf j hj))
  have x0 : aExtract (.tuple #[out, .int .i64 0]) 0 = some out := rfl
  have x1 : aExtract (.tuple #[out, .int .i64 0]) 1 = some (.int .i64 0) := rfl
  repeat (first | (with_reducible refine Wp.st ?_; simp only [wS]) | with_reducible refine Wp.drawS (by decide +kernel) ?_ | simp (disch := (first | (simp only [List.length_set, hl]; omega) | omega | rfl)) only [walkA, walkB, bne_self_eq_false, beq_self_eq_true, Option.map_some, Option.map_none, reduceIte, decide_true, decide_false, Int.reduceLT, Int.reduceLE, Int.reduceMul, Int.reduceAdd, Int.reduceSub, h0, h1, field65, hst, x0, x1])
  simp only [aRes_none Try.results79]
  exact hq
theorem all_append' {a b : List Value} (ha : a.all Value.oneCell' = true) (hb : b.all Value.oneCell' = true) : (a ++ b).all Value.oneCell' = true := by simp_all
theorem beTo_all (x : Int) : ∀ n, (beTo x n).all Value.oneCell' = true
  | 0 => rfl
  | n + 1 => by simp only [beTo, List.all_cons, beTo_all x n, oneB, Bool.and_self]
theorem flat_all (n : Nat) : ∀ xs : List Int, (xs.flatMap (fun x => beTo x n)).all Value.oneCell' = true
  | [] => rfl
  | x :: xs => by rw [List.flatMap_cons]; exact all_append' (beTo_all x n) (flat_all n xs)
theorem padB_all (n : Nat) : (padB n).all Value.oneCell' = true := by simp [padB, Value.oneCell']
theorem u32_am (lv : Value) (xs : List Int) (w : Nat) (v : Value) (bs : List Value) (h : Heap) (hx : Off h v w lv (xs.map (Value.int .u32))) (hr : ∀ x ∈ xs, 0 ≤ x ∧ x < 4294967296) (hw : WR h w 134 v bs) (hb1 : bs.all Value.oneCell' = true) (hlen : bs.length + 8 * xs.length ≤ 900000000) :
    Cl Try.prog 77 [.pointer (some ⟨w, 0, none⟩), lv] h (WQ h w 134 v (bs ++ xs.flatMap (fun x => beTo x 4))) := by
  refine Cl.enter Try.func77 rfl 27 Try.ntmps77 (by simp) ?_
  intro env hl ha
  have h0 : sl env 0 = .pointer (some ⟨w, 0, none⟩) := ha 0 (by simp)
  have h1 : sl env 1 = lv := ha 1 (by simp)
  clear ha
  have hl2 := len_any hx.1 Try.underlying148
  repeat (first | (with_reducible refine Wp.st ?_; simp only [wS]) | with_reducible refine Wp.drawS (by decide +kernel) ?_ | simp (disch := (first | (simp only [List.length_set, hl]; omega) | (simp only [List.length_set, el]; omega) | omega | rfl)) only [walkA, walkB, bne_self_eq_false, beq_self_eq_true, Option.map_some, Option.map_none, reduceIte, decide_true, decide_false, Int.reduceLT, Int.reduceLE, Int.reduceMul, Int.reduceAdd, Int.reduceSub, h0, h1, hl2])
  refine Wp.loop (fun m e hh => ∃ j v', j + m = xs.length ∧ e.length = 27 ∧ sl e 0 = .pointer (some ⟨w, 0, none⟩) ∧ sl e 6 = lv ∧ sl e 7 = .int .i64 xs.length ∧ sl e 8 = .int .i64 j ∧
      WR hh w 134 v' (bs ++ (xs.take j).flatMap (fun x => beTo x 4)) ∧ Same h hh (own v w) ∧ ∀ j, own v' w j → own v w j ∨ h.next ≤ j) xs.length
    ⟨0, v, by omega, by simp [hl], by (simp (disch := (first | (simp only [List.length_set, hl]; omega) | (simp only [List.length_set, el]; omega) | omega | rfl)) only [sL, h0]), by (simp (disch := (first | (simp only [List.length_set, hl]; omega) | (simp only [List.length_set, el]; omega) | omega | rfl)) only [sL, h1]), by (simp (disch := (first | (simp only [List.length_set, hl]; omega) | (simp only [List.length_set, el]; omega) | omega | rfl)) only [sL, List.length_map]), by (simp (disch := (first | (simp only [List.length_set, hl]; omega) | (simp only [List.length_set, el]; omega) | omega | rfl)) only [sL]); rfl, by simpa using hw, Same.refl _ _, fun _ hj => .inl hj⟩ ?_
  clear h0 h1 hl env hl2
  rintro m e hh ⟨j, v', hj, el, e0, e6, e7, e8, hw', hs, hf⟩
  repeat (first | (with_reducible refine Wp.st ?_; simp only [wS]) | with_reducible refine Wp.drawS (by decide +kernel) ?_ | simp (disch := (first | (simp only [List.length_set, hl]; omega) | (simp only [List.length_set, el]; omega) | omega | rfl)) only [walkA, walkB, bne_self_eq_false, beq_self_eq_true, Option.map_some, Option.map_none, reduceIte, decide_true, decide_false, Int.reduceLT, Int.reduceLE, Int.reduceMul, Int.reduceAdd, Int.reduceSub, e0, e6, e7, e8])
  by_cases hlt : j < xs.length
  · refine Wp.cond_true (by (simp (disch := (first | (simp only [List.length_set, hl]; omega) | (simp only [List.length_set, el]; omega) | omega | rfl)) only [sL, aEval_tmp]); simpa using hlt) ?_
    have hoff := hx.step hs hf
    obtain ⟨k, off, hx1, hx2⟩ := hoff.1.index (P := Try.prog) Try.underlying148 i44 rfl (j := j) (kd := .i64) (by simpa using hlt)
    rw [← aLoad_one (P := Try.prog) Try.underlying23 (by simp) (by simp)] at hx2
    have hxj := hr xs[j] (List.getElem_mem hlt)
    have hget : (xs.map (Value.int .u32))[j]'(by simpa using hlt) = .int .u32 xs[j] := by simp
    rw [hget] at hx2
    have hld := loadW hw'.1
    have hcv := fun x hx => conv_int (h := hx) (k' := .u32) (n := x) Try.underlying23 Try.underlying24
    have hwr : IntKind.u64.wrap xs[j] = xs[j] := wrap_u64 hxj.1 (by omega)
    obtain ⟨hw2, hoff2, hs2⟩ := Off.fresh (cs := [.int .u64 xs[j]]) (el := 24) (ro := false) (c := 1) hw'
    have hlen2 : (bs ++ (xs.take j).flatMap (fun x => beTo x 4)).length ≤ bs.length + 4 * xs.length := by simp only [List.length_append, flat_length, List.length_take]; omega
    repeat (first | (with_reducible refine Wp.st ?_; simp only [wS]) | with_reducible refine Wp.drawS (by decide +kernel) ?_ | simp (disch := (first | (simp only [List.length_set, hl]; omega) | (simp only [List.length_set, el]; omega) | omega | rfl)) only [walkA, walkB, bne_self_eq_false, beq_self_eq_true, Option.map_some, Option.map_none, reduceIte, decide_true, decide_false, Int.reduceLT, Int.reduceLE, Int.reduceMul, Int.reduceAdd, Int.reduceSub, e0, e6, e7, e8, hx1, hx2, hld, hcv, hwr, field65, slice1_64])
    refine (putBe_am 4 (.inl rfl) [xs[j]] (by simpa using hxj) v' _ _ _ hw2.2.1.row (all_append' hb1 (flat_all _ _)) hoff2.1 (by simp only [List.length_singleton]; omega)).mono ?_
    rintro r h' ⟨out, rfl, hb, hs3, hf3⟩
    obtain ⟨hst, -, v3, hw3, hs4, hf4⟩ := hw2.put (hs3.mono (fun _ hh => hh.elim)) hb (fun j hj => .inr (hf3 j hj))
    have x0 : aExtract (.tuple #[out, .int .i64 0]) 0 = some out := rfl
    have x1 : aExtract (.tuple #[out, .int .i64 0]) 1 = some (.int .i64 0) := rfl
    repeat (first | (with_reducible refine Wp.st ?_; simp only [wS]) | with_reducible refine Wp.drawS (by decide +kernel) ?_ | simp (disch := (first | (simp only [List.length_set, hl]; omega) | (simp only [List.length_set, el]; omega) | omega | rfl)) only [walkA, walkB, bne_self_eq_false, beq_self_eq_true, Option.map_some, Option.map_none, reduceIte, decide_true, decide_false, Int.reduceLT, Int.reduceLE, Int.reduceMul, Int.reduceAdd, Int.reduceSub, e0, e6, e7, e8, field65, hst, x0, x1])
    refine ⟨m - 1, by omega, j + 1, v3, by omega, by simp [el], by (simp (disch := (first | (simp only [List.length_set, hl]; omega) | (simp only [List.length_set, el]; omega) | omega | rfl)) only [sL, e0]), by (simp (disch := (first | (simp only [List.length_set, hl]; omega) | (simp only [List.length_set, el]; omega) | omega | rfl)) only [sL, e6]), by (simp (disch := (first | (simp only [List.length_set, hl]; omega) | (simp only [List.length_set, el]; omega) | omega | rfl)) only [sL, e7]), by (simp (disch := (first | (simp only [List.length_set, hl]; omega) | (simp only [List.length_set, el]; omega) | omega | rfl)) only [sL, Int.natCast_add]); rfl, by rw [take_succ_flat 4 xs j hlt, ← List.append_assoc]; simpa using hw3, ?_, ?_⟩
    · exact (hs.trans hs2 (fun _ x => x) (fun b hb x => (hf b x).elim id (fun y => absurd hb (by omega)))).trans hs4 (fun _ x => x) (fun b hb x => (hf b x).elim id (fun y => absurd hb (by omega)))
    · exact fun b x => (hf4 b x).elim (hf b) (fun y => .inr (Nat.le_trans hs.1 (Nat.le_trans (by simp) y)))
  · refine Wp.cond_false (by (simp (disch := (first | (simp only [List.length_set, hl]; omega) | (simp only [List.length_set, el]; omega) | omega | rfl)) only [sL, aEval_tmp]); simpa using hlt) ?_
    repeat (first | (with_reducible refine Wp.st ?_; simp only [wS]) | with_reducible refine Wp.drawS (by decide +kernel) ?_ | simp (disch := (first | (simp only [List.length_set, hl]; omega) | (simp only [List.length_set, el]; omega) | omega | rfl)) only [walkA, walkB, bne_self_eq_false, beq_self_eq_true, Option.map_some, Option.map_none, reduceIte, decide_true, decide_false, Int.reduceLT, Int.reduceLE, Int.reduceMul, Int.reduceAdd, Int.reduceSub, e0, e6, e7, e8])
    simp only [aRes_none Try.results77]
    have hjl : j = xs.length := by omega
    subst hjl
    exact ⟨rfl, v', by simpa using hw', hs, hf⟩
end Go.Proofs.Ytanknjpcgceccaa

namespace Go.Proofs.Ytanknjpcgceccaa
open Go Go.AM
set_option linter.unusedSimpArgs false
set_option maxRecDepth 100000
theorem negand (n : Nat) : IntKind.i64.wrap ((BitVec.ofInt IntKind.i64.bits (0 - (n : Int)) &&& BitVec.ofInt IntKind.i64.bits 3).toNat : Int) = ((pad n : Nat) : Int) := by
  have e1 : (BitVec.ofInt IntKind.i64.bits 3).toNat = 2 ^ 2 - 1 := rfl
  have e2 : (BitVec.ofInt IntKind.i64.bits (0 - (n : Int)) &&& BitVec.ofInt IntKind.i64.bits 3).toNat = pad n := by
    rw [BitVec.toNat_and, e1, Nat.and_two_pow_sub_one_eq_mod, BitVec.toNat_ofInt]
    unfold pad
    show ((0 - (n : Int)) % ((2 ^ 64 : Nat) : Int)).toNat % 2 ^ 2 = _
    omega
  rw [e2, wrap_i64 (by omega) (by have := pad_le n; omega)]
theorem src_int {h : Heap} {i : TypeInfo} {z : Value} {n : Nat} (hn : n ≤ 3) (hz : z = .int .u8 0) (hi : i.bytes = 1) : aSrc Try.prog h i z 3 (.int .i64 n) = some (n, List.replicate n (.int .u8 0)) := by
  subst hz
  have h1 : IntKind.i64.wrap (n : Int) = n := wrap_i64 (by omega) (by omega)
  have h2 : zeroRow (Value.int .u8 0).cells.toList n = List.replicate n (.int .u8 0) := by
    have e : (Value.int .u8 0).cells.toList = [.int .u8 0] := rfl
    rw [e]; unfold zeroRow
    rw [List.eq_replicate_iff]
    refine ⟨by simp, fun b hb => ?_⟩
    simp at hb
    obtain ⟨a, _, rfl⟩ := hb
    simp [Nat.mod_one]
  simp only [aSrc, Try.underlying3, h1, hi, Int.toNat_natCast, Nat.mul_one, small_of (show n ≤ 70368744177664 by omega), Bool.and_self, cond_true, h2]
  rw [if_pos (by omega)]
theorem flat_le {α : Type} (f : α → List Value) (c : Nat) : ∀ xs : List α, (∀ x ∈ xs, (f x).length ≤ c) → (xs.flatMap f).length ≤ c * xs.length
  | [], _ => by simp
  | x :: xs, h => by
    rw [List.flatMap_cons, List.length_append, List.length_cons, Nat.mul_add, Nat.mul_one]
    have := flat_le f c xs (fun y hy => h y (by simp [hy]))
    have := h x (by simp)
    omega
theorem take_succ_flat' {α : Type} (f : α → List Value) (xs : List α) (j : Nat) (hj : j < xs.length) : (xs.take (j + 1)).flatMap f = (xs.take j).flatMap f ++ f xs[j] := by
  rw [List.take_succ_eq_append_getElem hj, List.flatMap_append]; simp
theorem flat_all' {α : Type} (f : α → List Value) : ∀ xs : List α, (∀ x ∈ xs, (f x).all Value.oneCell' = true) → (xs.flatMap f).all Value.oneCell' = true
  | [], _ => rfl
  | x :: xs, h => by rw [List.flatMap_cons]; exact all_append' (h x (by simp)) (flat_all' f xs (fun y hy => h y (by simp [hy])))
def Pieces (h : Heap) (v : Value) (w : Nat) (lv : Value) (ps : List (Value × List Value)) : Prop :=
  Off h v w lv (ps.map (·.1)) ∧ ps.length ≤ 100 ∧ ∀ p ∈ ps, Off h v w p.1 p.2 ∧ p.2.all Value.oneCell' = true ∧ p.2.length ≤ 2000000 ∧ ∃ a n c, p.1 = .slice a n c
theorem Pieces.step {h h' : Heap} {v v' lv : Value} {w : Nat} {ps : List (Value × List Value)} (o : Pieces h v w lv ps) (hs : Same h h' (own v w)) (hf : ∀ j, own v' w j → own v w j ∨ h.next ≤ j) : Pieces h' v' w lv ps :=
  ⟨o.1.step hs hf, o.2.1, fun p hp => ⟨(o.2.2 p hp).1.step hs hf, (o.2.2 p hp).2⟩⟩
def fixB (p : Value × List Value) : List Value := p.2 ++ padB p.2.length
def bytesB (p : Value × List Value) : List Value := beTo p.2.length 4 ++ (p.2 ++ padB p.2.length)
theorem fixed_am (lv : Value) (ps : List (Value × List Value)) (w : Nat) (v : Value) (bs : List Value) (h : Heap) (hx : Pieces h v w lv ps) (hw : WR h w 134 v bs) (hlen : bs.length ≤ 300000000) :
    Cl Try.prog 98 [.pointer (some ⟨w, 0, none⟩), lv] h (WQ h w 134 v (bs ++ ps.flatMap fixB)) := by
  refine Cl.enter Try.func98 rfl 27 Try.ntmps98 (by simp) ?_
  intro env hl ha
  have h0 : sl env 0 = .pointer (some ⟨w, 0, none⟩) := ha 0 (by simp)
  have h1 : sl env 1 = lv := ha 1 (by simp)
  clear ha
  have hl2 := len_any hx.1.1 Try.underlying165
  repeat (first | (with_reducible refine Wp.st ?_; simp only [wS]) | with_reducible refine Wp.drawS (by decide +kernel) ?_ | simp (disch := (first | (simp only [List.length_set, hl]; omega) | (simp only [List.length_set, el]; omega) | omega | rfl)) only [walkA, walkB, bne_self_eq_false, beq_self_eq_true, Option.map_some, Option.map_none, reduceIte, decide_true, decide_false, Int.reduceLT, Int.reduceLE, Int.reduceMul, Int.reduceAdd, Int.reduceSub, h0, h1, hl2])
  refine Wp.loop (fun m e hh => ∃ j v', j + m = ps.length ∧ e.length = 27 ∧ sl e 0 = .pointer (some ⟨w, 0, none⟩) ∧ sl e 6 = lv ∧ sl e 7 = .int .i64 ps.length ∧ sl e 8 = .int .i64 j ∧
      WR hh w 134 v' (bs ++ (ps.take j).flatMap fixB) ∧ Same h hh (own v w) ∧ ∀ j, own v' w j → own v w j ∨ h.next ≤ j) ps.length
    ⟨0, v, by omega, by simp [hl], by (simp (disch := (first | (simp only [List.length_set, hl]; omega) | (simp only [List.length_set, el]; omega) | omega | rfl)) only [sL, h0]), by (simp (disch := (first | (simp only [List.length_set, hl]; omega) | (simp only [List.length_set, el]; omega) | omega | rfl)) only [sL, h1]), by (simp (disch := (first | (simp only [List.length_set, hl]; omega) | (simp only [List.length_set, el]; omega) | omega | rfl)) only [sL, List.length_map]), by (simp (disch := (first | (simp only [List.length_set, hl]; omega) | (simp only [List.length_set, el]; omega) | omega | rfl)) only [sL]); rfl, by simpa using hw, Same.refl _ _, fun _ hj => .inl hj⟩ ?_
  clear h0 h1 hl env hl2
  rintro m e hh ⟨j, v', hj, el, e0, e6, e7, e8, hw', hs, hf⟩
  repeat (first | (with_reducible refine Wp.st ?_; simp only [wS]) | with_reducible refine Wp.drawS (by decide +kernel) ?_ | simp (disch := (first | (simp only [List.length_set, hl]; omega) | (simp only [List.length_set, el]; omega) | omega | rfl)) only [walkA, walkB, bne_self_eq_false, beq_self_eq_true, Option.map_some, Option.map_none, reduceIte, decide_true, decide_false, Int.reduceLT, Int.reduceLE, Int.reduceMul, Int.reduceAdd, Int.reduceSub, e0, e6, e7, e8])
  by_cases hlt : j < ps.length
  · refine Wp.cond_true (by (simp (disch := (first | (simp only [List.length_set, hl]; omega) | (simp only [List.length_set, el]; omega) | omega | rfl)) only [sL, aEval_tmp]); simpa using hlt) ?_
    have hoff := hx.step hs hf
    have hpn : ps.length ≤ 100 := hx.2.1
    obtain ⟨k, off, hx1, hx2⟩ := hoff.1.1.index (P := Try.prog) Try.underlying165 i27 rfl (j := j) (kd := .i64) (by simpa using hlt)
    rw [← aLoad_one (P := Try.prog) Try.underlying22 (by simp) (by simp)] at hx2
    have hget : (ps.map (·.1))[j]'(by simpa using hlt) = ps[j].1 := by simp
    rw [hget] at hx2
    obtain ⟨hp, hp1, hpl, -⟩ := hoff.2.2 ps[j] (List.getElem_mem hlt)
    have hld := loadW hw'.1
    have hlen2 : (bs ++ (ps.take j).flatMap fixB).length ≤ bs.length + 2000010 * 100 := by
      have h1 := flat_le fixB 2000010 (ps.take j) (fun x hx' => by
        have := (hoff.2.2 x (List.mem_of_mem_take hx')).2.2.1
        have := pad_le x.2.length
        simp only [fixB, List.length_append, padB_length]; omega)
      have h2 := hoff.2.1
      have h3 : (ps.take j).length ≤ 100 := by rw [List.length_take]; omega
      rw [List.length_append]
      have := Nat.mul_le_mul_left 2000010 h3
      omega
    obtain ⟨v1, hh1, ha1, hb1, hs1, hf1⟩ := Buf.append (P := Try.prog) hw'.2.1 Try.underlying22 i5 rfl rfl rfl rfl (hp.1.src Try.underlying22 (by simp) rfl) rfl hp1 (small_of (by omega)) (small_of (by simp only [Try.t5]; omega))
    have hpd := pad_le ps[j].2.length
    obtain ⟨v2, hh2, ha2, hb2, hs2, hf2⟩ := Buf.append (P := Try.prog) (xT := 3) (x := .int .i64 (pad ps[j].2.length : Nat)) hb1 Try.underlying22 i5 rfl rfl rfl rfl (src_int hpd rfl rfl) (by simp) (by simp [Value.oneCell']) (small_of (by simp only [List.length_append] at *; omega)) (small_of (by simp only [Try.t5, List.length_append] at *; omega))
    have hs3 : Same hh hh2 (bufBlk v') := hs1.trans hs2 (fun _ x => x) (fun b hb x => (hf1 b x).elim id (fun y => absurd hb (by omega)))
    have hf3 : ∀ b, bufBlk v2 b → bufBlk v' b ∨ hh.next ≤ b := fun b x => (hf2 b x).elim (hf1 b) (fun y => .inr (Nat.le_trans hs1.1 y))
    obtain ⟨hst, -, v3, hw3, hs4, hf4⟩ := hw'.put hs3 hb2 hf3
    have hl3 := len_any hp.1 Try.underlying22
    repeat (first | (with_reducible refine Wp.st ?_; simp only [wS]) | with_reducible refine Wp.drawS (by decide +kernel) ?_ | simp (disch := (first | (simp only [List.length_set, hl]; omega) | (simp only [List.length_set, el]; omega) | omega | rfl)) only [walkA, walkB, bne_self_eq_false, beq_self_eq_true, Option.map_some, Option.map_none, reduceIte, decide_true, decide_false, Int.reduceLT, Int.reduceLE, Int.reduceMul, Int.reduceAdd, Int.reduceSub, e0, e6, e7, e8, hx1, hx2, hld, field65, builtin_append, ha1, hl3, negand, ha2, hst])
    refine ⟨m - 1, by omega, j + 1, v3, by omega, by simp [el], by (simp (disch := (first | (simp only [List.length_set, hl]; omega) | (simp only [List.length_set, el]; omega) | omega | rfl)) only [sL, e0]), by (simp (disch := (first | (simp only [List.length_set, hl]; omega) | (simp only [List.length_set, el]; omega) | omega | rfl)) only [sL, e6]), by (simp (disch := (first | (simp only [List.length_set, hl]; omega) | (simp only [List.length_set, el]; omega) | omega | rfl)) only [sL, e7]), by (simp (disch := (first | (simp only [List.length_set, hl]; omega) | (simp only [List.length_set, el]; omega) | omega | rfl)) only [sL, Int.natCast_add]); rfl, by rw [take_succ_flat' fixB ps j hlt, ← List.append_assoc]; simpa [fixB, padB, List.append_assoc] using hw3, ?_, ?_⟩
    · exact hs.trans hs4 (fun _ x => x) (fun b hb x => (hf b x).elim id (fun y => absurd hb (by omega)))
    · exact fun b x => (hf4 b x).elim (hf b) (fun y => .inr (Nat.le_trans hs.1 y))
  · refine Wp.cond_false (by (simp (disch := (first | (simp only [List.length_set, hl]; omega) | (simp only [List.length_set, el]; omega) | omega | rfl)) only [sL, aEval_tmp]); simpa using hlt) ?_
    repeat (first | (with_reducible refine Wp.st ?_; simp only [wS]) | with_reducible refine Wp.drawS (by decide +kernel) ?_ | simp (disch := (first | (simp only [List.length_set, hl]; omega) | (simp only [List.length_set, el]; omega) | omega | rfl)) only [walkA, walkB, bne_self_eq_false, beq_self_eq_true, Option.map_some, Option.map_none, reduceIte, decide_true, decide_false, Int.reduceLT, Int.reduceLE, Int.reduceMul, Int.reduceAdd, Int.reduceSub, e0, e6, e7, e8])
    simp only [aRes_none Try.results98]
    have hjl : j = ps.length := by omega
    subst hjl
    exact ⟨rfl, v', by simpa using hw', hs, hf⟩
theorem bool_am (lv : Value) (xs : List Bool) (w : Nat) (v : Value) (bs : List Value) (h : Heap) (hx : Off h v w lv (xs.map Value.bool)) (hw : WR h w 134 v bs) (hb1 : bs.all Value.oneCell' = true) (hlen : bs.length + 8 * xs.length ≤ 800000000) :
    Cl Try.prog 75 [.pointer (some ⟨w, 0, none⟩), lv] h (WQ h w 134 v (bs ++ xs.flatMap (fun b => beTo (if b then 1 else 0) 4))) := by
  refine Cl.enter Try.func75 rfl 20 Try.ntmps75 (by simp) ?_
  intro env hl ha
  have h0 : sl env 0 = .pointer (some ⟨w, 0, none⟩) := ha 0 (by simp)
  have h1 : sl env 1 = lv := ha 1 (by simp)
  clear ha
  have hl2 := len_any hx.1 Try.underlying161
  repeat (first | (with_reducible refine Wp.st ?_; simp only [wS]) | with_reducible refine Wp.drawS (by decide +kernel) ?_ | simp (disch := (first | (simp only [List.length_set, hl]; omega) | (simp only [List.length_set, el]; omega) | omega | rfl)) only [walkA, walkB, bne_self_eq_false, beq_self_eq_true, Option.map_some, Option.map_none, reduceIte, decide_true, decide_false, Int.reduceLT, Int.reduceLE, Int.reduceMul, Int.reduceAdd, Int.reduceSub, h0, h1, hl2])
  refine Wp.loop (fun m e hh => ∃ j v', j + m = xs.length ∧ e.length = 20 ∧ sl e 0 = .pointer (some ⟨w, 0, none⟩) ∧ sl e 6 = lv ∧ sl e 7 = .int .i64 xs.length ∧ sl e 8 = .int .i64 j ∧
      WR hh w 134 v' (bs ++ (xs.take j).flatMap (fun b => beTo (if b then 1 else 0) 4)) ∧ Same h hh (own v w) ∧ ∀ j, own v' w j → own v w j ∨ h.next ≤ j) xs.length
    ⟨0, v, by omega, by simp [hl], by (simp (disch := (first | (simp only [List.length_set, hl]; omega) | (simp only [List.length_set, el]; omega) | omega | rfl)) only [sL, h0]), by (simp (disch := (first | (simp only [List.length_set, hl]; omega) | (simp only [List.length_set, el]; omega) | omega | rfl)) only [sL, h1]), by (simp (disch := (first | (simp only [List.length_set, hl]; omega) | (simp only [List.length_set, el]; omega) | omega | rfl)) only [sL, List.length_map]), by (simp (disch := (first | (simp only [List.length_set, hl]; omega) | (simp only [List.length_set, el]; omega) | omega | rfl)) only [sL]); rfl, by simpa using hw, Same.refl _ _, fun _ hj => .inl hj⟩ ?_
  clear h0 h1 hl env hl2
  rintro m e hh ⟨j, v', hj, el, e0, e6, e7, e8, hw', hs, hf⟩
  repeat (first | (with_reducible refine Wp.st ?_; simp only [wS]) | with_reducible refine Wp.drawS (by decide +kernel) ?_ | simp (disch := (first | (simp only [List.length_set, hl]; omega) | (simp only [List.length_set, el]; omega) | omega | rfl)) only [walkA, walkB, bne_self_eq_false, beq_self_eq_true, Option.map_some, Option.map_none, reduceIte, decide_true, decide_false, Int.reduceLT, Int.reduceLE, Int.reduceMul, Int.reduceAdd, Int.reduceSub, e0, e6, e7, e8])
  by_cases hlt : j < xs.length
  · refine Wp.cond_true (by (simp (disch := (first | (simp only [List.length_set, hl]; omega) | (simp only [List.length_set, el]; omega) | omega | rfl)) only [sL, aEval_tmp]); simpa using hlt) ?_
    have hoff := hx.step hs hf
    obtain ⟨k, off, hx1, hx2⟩ := hoff.1.index (P := Try.prog) Try.underlying161 i4 rfl (j := j) (kd := .i64) (by simpa using hlt)
    rw [← aLoad_one (P := Try.prog) Try.underlying4 (by simp) (by simp)] at hx2
    have hget : (xs.map Value.bool)[j]'(by simpa using hlt) = .bool xs[j] := by simp
    rw [hget] at hx2
    have hlen2 : (bs ++ (xs.take j).flatMap (fun b => beTo (if b then 1 else 0) 4)).length ≤ bs.length + 4 * xs.length := by
      have h1 := flat_le (fun b : Bool => beTo (if b then 1 else 0) 4) 4 (xs.take j) (fun _ _ => by rw [beTo_length]; omega)
      have h3 : (xs.take j).length ≤ xs.length := by rw [List.length_take]; omega
      rw [List.length_append]
      omega
    have hall : (bs ++ (xs.take j).flatMap (fun b => beTo (if b then 1 else 0) 4)).all Value.oneCell' = true := all_append' hb1 (flat_all' _ _ (fun _ _ => beTo_all _ _))
    have fin : ∀ (n : Int), n = (if xs[j] then 1 else 0) → ∀ r h', WQ (hh.push (.cells [.int .u32 n] 23 false)) w 134 v' ((bs ++ (xs.take j).flatMap (fun b => beTo (if b then 1 else 0) 4)) ++ [n].flatMap (fun x => beTo x 4)) r h' →
        ∃ v3, WR h' w 134 v3 (bs ++ (xs.take (j + 1)).flatMap (fun b => beTo (if b then 1 else 0) 4)) ∧ Same h h' (own v w) ∧ ∀ j, own v3 w j → own v w j ∨ h.next ≤ j := by
      rintro n rfl r h' ⟨-, v3, hw3, hs3, hf3⟩
      have hs2 : Same hh (hh.push (.cells [.int .u32 (if xs[j] then 1 else 0)] 23 false)) (own v' w) := Same.push _ _ _
      refine ⟨v3, by rw [take_succ_flat' _ xs j hlt, ← List.append_assoc]; simpa using hw3, ?_, fun b x => (hf3 b x).elim (hf b) (fun y => .inr (Nat.le_trans hs.1 (Nat.le_trans (by simp) y)))⟩
      exact (hs.trans hs2 (fun _ x => x) (fun b hb x => (hf b x).elim id (fun y => absurd hb (by omega)))).trans hs3 (fun _ x => x) (fun b hb x => (hf b x).elim id (fun y => absurd hb (by omega)))
    have call : ∀ n : Int, n = 1 ∨ n = 0 → Cl Try.prog 77 [.pointer (some ⟨w, 0, none⟩), .slice (some ⟨hh.next, 0, none⟩) 1 1] (hh.push (.cells [.int .u32 n] 23 false)) (WQ (hh.push (.cells [.int .u32 n] 23 false)) w 134 v' ((bs ++ (xs.take j).flatMap (fun b => beTo (if b then 1 else 0) 4)) ++ [n].flatMap (fun x => beTo x 4))) := fun n hn => by
      obtain ⟨hw2, hoff2, hs2⟩ := Off.fresh (cs := [.int .u32 n]) (el := 23) (ro := false) (c := 1) hw'
      exact u32_am _ [n] w v' _ _ hoff2 (by simp; omega) hw2 hall (by simp only [List.length_singleton]; omega)
    cases hb : xs[j] with
    | true =>
      rw [hb] at hx2 fin
      repeat (first | (with_reducible refine Wp.st ?_; simp only [wS]) | with_reducible refine Wp.drawS (by decide +kernel) ?_ | simp (disch := (first | (simp only [List.length_set, hl]; omega) | (simp only [List.length_set, el]; omega) | omega | rfl)) only [walkA, walkB, bne_self_eq_false, beq_self_eq_true, Option.map_some, Option.map_none, reduceIte, decide_true, decide_false, Int.reduceLT, Int.reduceLE, Int.reduceMul, Int.reduceAdd, Int.reduceSub, e0, e6, e7, e8, hx1, hx2])
      refine Wp.cond_true (by (simp (disch := (first | (simp only [List.length_set, hl]; omega) | (simp only [List.length_set, el]; omega) | omega | rfl)) only [sL, aEval_tmp])) ?_
      repeat (first | (with_reducible refine Wp.st ?_; simp only [wS]) | with_reducible refine Wp.drawS (by decide +kernel) ?_ | simp (disch := (first | (simp only [List.length_set, hl]; omega) | (simp only [List.length_set, el]; omega) | omega | rfl)) only [walkA, walkB, bne_self_eq_false, beq_self_eq_true, Option.map_some, Option.map_none, reduceIte, decide_true, decide_false, Int.reduceLT, Int.reduceLE, Int.reduceMul, Int.reduceAdd, Int.reduceSub, e0, e6, e7, e8, hx1, hx2, slice1_32])
      refine (call 1 (.inl rfl)).mono ?_
      intro r h' hq
      obtain ⟨v3, q1, q2, q3⟩ := fin 1 rfl r h' hq
      repeat (first | (with_reducible refine Wp.st ?_; simp only [wS]) | with_reducible refine Wp.drawS (by decide +kernel) ?_ | simp (disch := (first | (simp only [List.length_set, hl]; omega) | (simp only [List.length_set, el]; omega) | omega | rfl)) only [walkA, walkB, bne_self_eq_false, beq_self_eq_true, Option.map_some, Option.map_none, reduceIte, decide_true, decide_false, Int.reduceLT, Int.reduceLE, Int.reduceMul, Int.reduceAdd, Int.reduceSub, e0, e6, e7, e8])
      exact ⟨m - 1, by omega, j + 1, v3, by omega, by simp [el], by (simp (disch := (first | (simp only [List.length_set, hl]; omega) | (simp only [List.length_set, el]; omega) | omega | rfl)) only [sL, e0]), by (simp (disch := (first | (simp only [List.length_set, hl]; omega) | (simp only [List.length_set, el]; omega) | omega | rfl)) only [sL, e6]), by (simp (disch := (first | (simp only [List.length_set, hl]; omega) | (simp only [List.length_set, el]; omega) | omega | rfl)) only [sL, e7]), by (simp (disch := (first | (simp only [List.length_set, hl]; omega) | (simp only [List.length_set, el]; omega) | omega | rfl)) only [sL, Int.natCast_add]); rfl, q1, q2, q3⟩
    | false =>
      rw [hb] at hx2 fin
      repeat (first | (with_reducible refine Wp.st ?_; simp only [wS]) | with_reducible refine Wp.drawS (by decide +kernel) ?_ | simp (disch := (first | (simp only [List.length_set, hl]; omega) | (simp only [List.length_set, el]; omega) | omega | rfl)) only [walkA, walkB, bne_self_eq_false, beq_self_eq_true, Option.map_some, Option.map_none, reduceIte, decide_true, decide_false, Int.reduceLT, Int.reduceLE, Int.reduceMul, Int.reduceAdd, Int.reduceSub, e0, e6, e7, e8, hx1, hx2])
      refine Wp.cond_false (by (simp (disch := (first | (simp only [List.length_set, hl]; omega) | (simp only [List.length_set, el]; omega) | omega | rfl)) only [sL, aEval_tmp])) ?_
      repeat (first | (with_reducible refine Wp.st ?_; simp only [wS]) | with_reducible refine Wp.drawS (by decide +kernel) ?_ | simp (disch := (first | (simp only [List.length_set, hl]; omega) | (simp only [List.length_set, el]; omega) | omega | rfl)) only [walkA, walkB, bne_self_eq_false, beq_self_eq_true, Option.map_some, Option.map_none, reduceIte, decide_true, decide_false, Int.reduceLT, Int.reduceLE, Int.reduceMul, Int.reduceAdd, Int.reduceSub, e0, e6, e7, e8, hx1, hx2, slice1_32])
      refine (call 0 (.inr rfl)).mono ?_
      intro r h' hq
      obtain ⟨v3, q1, q2, q3⟩ := fin 0 rfl r h' hq
      repeat (first | (with_reducible refine Wp.st ?_; simp only [wS]) | with_reducible refine Wp.drawS (by decide +kernel) ?_ | simp (disch := (first | (simp only [List.length_set, hl]; omega) | (simp only [List.length_set, el]; omega) | omega | rfl)) only [walkA, walkB, bne_self_eq_false, beq_self_eq_true, Option.map_some, Option.map_none, reduceIte, decide_true, decide_false, Int.reduceLT, Int.reduceLE, Int.reduceMul, Int.reduceAdd, Int.reduceSub, e0, e6, e7, e8])
      exact ⟨m - 1, by omega, j + 1, v3, by omega, by simp [el], by (simp (disch := (first | (simp only [List.length_set, hl]; omega) | (simp only [List.length_set, el]; omega) | omega | rfl)) only [sL, e0]), by (simp (disch := (first | (simp only [List.length_set, hl]; omega) | (simp only [List.length_set, el]; omega) | omega | rfl)) only [sL, e6]), by (simp (disch := (first | (simp only [List.length_set, hl]; omega) | (simp only [List.length_set, el]; omega) | omega | rfl)) only [sL, e7]), by (simp (disch := (first | (simp only [List.length_set, hl]; omega) | (simp only [List.length_set, el]; omega) | omega | rfl)) only [sL, Int.natCast_add]); rfl, q1, q2, q3⟩
  · refine Wp.cond_false (by (simp (disch := (first | (simp only [List.length_set, hl]; omega) | (simp only [List.length_set, el]; omega) | omega | rfl)) only [sL, aEval_tmp]); simpa using hlt) ?_
    repeat (first | (with_reducible refine Wp.st ?_; simp only [wS]) | with_reducible refine Wp.drawS (by decide +kernel) ?_ | simp (disch := (first | (simp only [List.length_set, hl]; omega) | (simp only [List.length_set, el]; omega) | omega | rfl)) only [walkA, walkB, bne_self_eq_false, beq_self_eq_true, Option.map_some, Option.map_none, reduceIte, decide_true, decide_false, Int.reduceLT, Int.reduceLE, Int.reduceMul, Int.reduceAdd, Int.reduceSub, e0, e6, e7, e8])
    simp only [aRes_none Try.results75]
    have hjl : j = xs.length := by omega
    subst hjl
    exact ⟨rfl, v', by simpa using hw', hs, hf⟩
theorem bytes_am (lv : Value) (ps : List (Value × List Value)) (w : Nat) (v : Value) (bs : List Value) (h : Heap) (hx : Pieces h v w lv ps) (hw : WR h w 134 v bs) (hb1 : bs.all Value.oneCell' = true) (hlen : bs.length ≤ 10000000) :
    Cl Try.prog 82 [.pointer (some ⟨w, 0, none⟩), lv] h (WQ h w 134 v (bs ++ ps.flatMap bytesB)) := by
  refine Cl.enter Try.func82 rfl 23 Try.ntmps82 (by simp) ?_
  intro env hl ha
  have h0 : sl env 0 = .pointer (some ⟨w, 0, none⟩) := ha 0 (by simp)
  have h1 : sl env 1 = lv := ha 1 (by simp)
  clear ha
  have hpn : ps.length ≤ 100 := hx.2.1
  have hl2 := len_any hx.1.1 Try.underlying165
  repeat (first | (with_reducible refine Wp.st ?_; simp only [wS]) | with_reducible refine Wp.drawS (by decide +kernel) ?_ | simp (disch := (first | (simp only [List.length_set, hl]; omega) | (simp only [List.length_set, el]; omega) | omega | rfl)) only [walkA, walkB, bne_self_eq_false, beq_self_eq_true, Option.map_some, Option.map_none, reduceIte, decide_true, decide_false, Int.reduceLT, Int.reduceLE, Int.reduceMul, Int.reduceAdd, Int.reduceSub, h0, h1, hl2])
  refine Wp.loop (fun m e hh => ∃ j v', j + m = ps.length ∧ e.length = 23 ∧ sl e 0 = .pointer (some ⟨w, 0, none⟩) ∧ sl e 6 = lv ∧ sl e 7 = .int .i64 ps.length ∧ sl e 8 = .int .i64 j ∧
      WR hh w 134 v' (bs ++ (ps.take j).flatMap bytesB) ∧ Same h hh (own v w) ∧ ∀ j, own v' w j → own v w j ∨ h.next ≤ j) ps.length
    ⟨0, v, by omega, by simp [hl], by (simp (disch := (first | (simp only [List.length_set, hl]; omega) | (simp only [List.length_set, el]; omega) | omega | rfl)) only [sL, h0]), by (simp (disch := (first | (simp only [List.length_set, hl]; omega) | (simp only [List.length_set, el]; omega) | omega | rfl)) only [sL, h1]), by (simp (disch := (first | (simp only [List.length_set, hl]; omega) | (simp only [List.length_set, el]; omega) | omega | rfl)) only [sL, List.length_map]), by (simp (disch := (first | (simp only [List.length_set, hl]; omega) | (simp only [List.length_set, el]; omega) | omega | rfl)) only [sL]); rfl, by simpa using hw, Same.refl _ _, fun _ hj => .inl hj⟩ ?_
  clear h0 h1 hl env hl2
  rintro m e hh ⟨j, v', hj, el, e0, e6, e7, e8, hw', hs, hf⟩
  repeat (first | (with_reducible refine Wp.st ?_; simp only [wS]) | with_reducible refine Wp.drawS (by decide +kernel) ?_ | simp (disch := (first | (simp only [List.length_set, hl]; omega) | (simp only [List.length_set, el]; omega) | omega | rfl)) only [walkA, walkB, bne_self_eq_false, beq_self_eq_true, Option.map_some, Option.map_none, reduceIte, decide_true, decide_false, Int.reduceLT, Int.reduceLE, Int.reduceMul, Int.reduceAdd, Int.reduceSub, e0, e6, e7, e8])
  by_cases hlt : j < ps.length
  · refine Wp.cond_true (by (simp (disch := (first | (simp only [List.length_set, hl]; omega) | (simp only [List.length_set, el]; omega) | omega | rfl)) only [sL, aEval_tmp]); simpa using hlt) ?_
    have hoff := hx.step hs hf
    obtain ⟨k, off, hx1, hx2⟩ := hoff.1.1.index (P := Try.prog) Try.underlying165 i27 rfl (j := j) (kd := .i64) (by simpa using hlt)
    rw [← aLoad_one (P := Try.prog) Try.underlying22 (by simp) (by simp)] at hx2
    have hget : (ps.map (·.1))[j]'(by simpa using hlt) = ps[j].1 := by simp
    rw [hget] at hx2
    obtain ⟨hp, hp1, hpl, a, n, c, hpv⟩ := hoff.2.2 ps[j] (List.getElem_mem hlt)
    have hlen2 : (bs ++ (ps.take j).flatMap bytesB).length ≤ bs.length + 2000014 * 100 := by
      have h1 := flat_le bytesB 2000014 (ps.take j) (fun x hx' => by
        have := (hoff.2.2 x (List.mem_of_mem_take hx')).2.2.1
        have := pad_le x.2.length
        simp only [bytesB, List.length_append, padB_length, beTo_length]; omega)
      have h3 : (ps.take j).length ≤ 100 := by rw [List.length_take]; omega
      rw [List.length_append]
      have := Nat.mul_le_mul_left 2000014 h3
      omega
    have hall : (bs ++ (ps.take j).flatMap bytesB).all Value.oneCell' = true := all_append' hb1 (flat_all' _ _ (fun x hx' => by
      have := (hoff.2.2 x (List.mem_of_mem_take hx')).2.1
      exact all_append' (beTo_all _ _) (all_append' this (padB_all _))))
    have hl3 := len_any hp.1 Try.underlying22
    have hcv := fun x hx => conv_int (h := hx) (k' := .i64) (n := x) Try.underlying3 Try.underlying23
    have hwr : IntKind.u32.wrap (ps[j].2.length : Int) = ps[j].2.length := wrap_u32 (by omega) (by omega)
    obtain ⟨hw2, hoff2, hs2⟩ := Off.fresh (cs := [.int .u32 (ps[j].2.length : Int)]) (el := 23) (ro := false) (c := 1) hw'
    repeat (first | (with_reducible refine Wp.st ?_; simp only [wS]) | with_reducible refine Wp.drawS (by decide +kernel) ?_ | simp (disch := (first | (simp only [List.length_set, hl]; omega) | (simp only [List.length_set, el]; omega) | omega | rfl)) only [walkA, walkB, bne_self_eq_false, beq_self_eq_true, Option.map_some, Option.map_none, reduceIte, decide_true, decide_false, Int.reduceLT, Int.reduceLE, Int.reduceMul, Int.reduceAdd, Int.reduceSub, e0, e6, e7, e8, hx1, hx2, hl3, hcv, hwr, slice1_32])
    refine (u32_am _ [(ps[j].2.length : Int)] w v' _ _ hoff2 (by simp; omega) hw2 hall (by simp only [List.length_singleton]; omega)).mono ?_
    rintro r h' ⟨-, v3, hw3, hs3, hf3⟩
    have hs3' : Same hh h' (own v' w) := hs2.trans hs3 (fun _ x => x) (fun _ _ x => x)
    have hf3' : ∀ b, own v3 w b → own v' w b ∨ hh.next ≤ b := fun b x => (hf3 b x).imp id (fun y => Nat.le_trans (by simp) y)
    obtain ⟨hw4, hoff4, hs4⟩ := Off.fresh (cs := [ps[j].1]) (el := 22) (ro := false) (c := 1) hw3
    have hsl : aBuildSlice Try.prog h' 165 1 [(0, ps[j].1)] = some (.slice (some ⟨h'.next, 0, none⟩) 1 1, h'.push (.cells [ps[j].1] 22 false)) := by rw [hpv]; exact slice1_row
    repeat (first | (with_reducible refine Wp.st ?_; simp only [wS]) | with_reducible refine Wp.drawS (by decide +kernel) ?_ | simp (disch := (first | (simp only [List.length_set, hl]; omega) | (simp only [List.length_set, el]; omega) | omega | rfl)) only [walkA, walkB, bne_self_eq_false, beq_self_eq_true, Option.map_some, Option.map_none, reduceIte, decide_true, decide_false, Int.reduceLT, Int.reduceLE, Int.reduceMul, Int.reduceAdd, Int.reduceSub, e0, e6, e7, e8, hsl])
    have hp4 := (hp.step hs3' hf3').step hs4 (fun b x => .inl x)
    have hlen3 : (bs ++ (ps.take j).flatMap bytesB ++ [(ps[j].2.length : Int)].flatMap (fun x => beTo x 4)).length ≤ bs.length + 2000014 * 100 + 4 := by rw [List.length_append, flat_length, List.length_singleton]; omega
    refine (fixed_am _ [ps[j]] w v3 _ _ ⟨by simpa using hoff4, by simp, by simpa using ⟨hp4, by simpa using hp1, hpl, a, n, c, hpv⟩⟩ hw4 (by omega)).mono ?_
    rintro r h2 ⟨-, v5, hw5, hs5, hf5⟩
    repeat (first | (with_reducible refine Wp.st ?_; simp only [wS]) | with_reducible refine Wp.drawS (by decide +kernel) ?_ | simp (disch := (first | (simp only [List.length_set, hl]; omega) | (simp only [List.length_set, el]; omega) | omega | rfl)) only [walkA, walkB, bne_self_eq_false, beq_self_eq_true, Option.map_some, Option.map_none, reduceIte, decide_true, decide_false, Int.reduceLT, Int.reduceLE, Int.reduceMul, Int.reduceAdd, Int.reduceSub, e0, e6, e7, e8])
    have hs6 : Same hh h2 (own v' w) := hs3'.trans (hs4.trans hs5 (fun _ x => x) (fun _ _ x => x)) (fun _ x => x) (fun b hb x => (hf3' b x).elim id (fun y => absurd hb (by omega)))
    refine ⟨m - 1, by omega, j + 1, v5, by omega, by simp [el], by (simp (disch := (first | (simp only [List.length_set, hl]; omega) | (simp only [List.length_set, el]; omega) | omega | rfl)) only [sL, e0]), by (simp (disch := (first | (simp only [List.length_set, hl]; omega) | (simp only [List.length_set, el]; omega) | omega | rfl)) only [sL, e6]), by (simp (disch := (first | (simp only [List.length_set, hl]; omega) | (simp only [List.length_set, el]; omega) | omega | rfl)) only [sL, e7]), by (simp (disch := (first | (simp only [List.length_set, hl]; omega) | (simp only [List.length_set, el]; omega) | omega | rfl)) only [sL, Int.natCast_add]); rfl, by rw [take_succ_flat' bytesB ps j hlt, ← List.append_assoc]; simpa [bytesB, fixB, List.append_assoc] using hw5, ?_, ?_⟩
    · exact hs.trans hs6 (fun _ x => x) (fun b hb x => (hf b x).elim id (fun y => absurd hb (by omega)))
    · exact fun b x => (hf5 b x).elim (fun y => (hf3' b y).elim (hf b) (fun z => .inr (Nat.le_trans hs.1 z))) (fun y => .inr (Nat.le_trans hs.1 (Nat.le_trans hs3'.1 (Nat.le_trans (by simp) y))))
  · refine Wp.cond_false (by (simp (disch := (first | (simp only [List.length_set, hl]; omega) | (simp only [List.length_set, el]; omega) | omega | rfl)) only [sL, aEval_tmp]); simpa using hlt) ?_
    repeat (first | (with_reducible refine Wp.st ?_; simp only [wS]) | with_reducible refine Wp.drawS (by decide +kernel) ?_ | simp (disch := (first | (simp only [List.length_set, hl]; omega) | (simp only [List.length_set, el]; omega) | omega | rfl)) only [walkA, walkB, bne_self_eq_false, beq_self_eq_true, Option.map_some, Option.map_none, reduceIte, decide_true, decide_false, Int.reduceLT, Int.reduceLE, Int.reduceMul, Int.reduceAdd, Int.reduceSub, e0, e6, e7, e8])
    simp only [aRes_none Try.results82]
    have hjl : j = ps.length := by omega
    subst hjl
    exact ⟨rfl, v', by simpa using hw', hs, hf⟩
end Go.Proofs.Ytanknjpcgceccaa

namespace Go.Proofs.Ytanknjpcgceccaa
open Go Go.AM
set_option linter.unusedSimpArgs false
set_option maxRecDepth 100000
theorem nil_eq {xo yo : Operand} {n c : Nat} : aBin Try.prog .eql 22 xo yo (.slice none n c) (.slice none 0 0) = some (.bool true) := by
  simp [aBin, aEqF, Try.underlying22]
theorem nil_ne {xo yo : Operand} {a : Addr} {n c : Nat} : aBin Try.prog .eql 22 xo yo (.slice (some a) n c) (.slice none 0 0) = some (.bool false) := by
  simp [aBin, aEqF, Try.underlying22]
theorem slice_none {h : Heap} : aBuildSlice Try.prog h 22 0 [] = some (.slice (some ⟨h.next, 0, none⟩) 0 0, h.push (.cells [] 5 false)) := by
  have e1 : Nat.ble 0 1048576 = true := rfl
  have e2 : (Try.t5).zero = some (.int .u8 0) := rfl
  have e3 : (Value.int .u8 0).cells = #[.int .u8 0] := rfl
  have e4 : plainB 4 (Value.int .u8 0) = true := rfl
  have e5 : Nat.ble 0 0 = true := rfl
  have e6 : (Try.t5).size = 1 := rfl
  simp [aBuildSlice, Try.underlying22, i5, e1, e2, e3, e4, e5, e6, zeroRow, aFill, aNew]
theorem clone_am (bv : Value) (bs : List Value) (h : Heap) (hb : Row h bv bs) (hb1 : bs.all Value.oneCell' = true) (hlen : bs.length ≤ 1000000000) :
    Cl Try.prog 50 [bv] h fun r h' => Buf h' 5 r bs ∧ Same h h' noS ∧ ∀ j, bufBlk r j → h.next ≤ j := by
  refine Cl.enter Try.func50 rfl 8 Try.ntmps50 (by simp) ?_
  intro env hl ha
  have h0 : sl env 0 = bv := ha 0 (by simp)
  clear ha
  have hnil : ∀ j, ¬ bufBlk (.slice none 0 0) j := by rintro j ⟨o, m, d, hh⟩; cases hh
  by_cases hn : bv = .slice none 0 0 ∧ bs = []
  · obtain ⟨rfl, rfl⟩ := hn
    repeat (first | (with_reducible refine Wp.st ?_; simp only [wS]) | with_reducible refine Wp.drawS (by decide +kernel) ?_ | simp (disch := (first | (simp only [List.length_set, hl]; omega) | (simp only [List.length_set, el]; omega) | omega | rfl)) only [walkA, walkB, bne_self_eq_false, beq_self_eq_true, Option.map_some, Option.map_none, reduceIte, decide_true, decide_false, Int.reduceLT, Int.reduceLE, Int.reduceMul, Int.reduceAdd, Int.reduceSub, h0, nil_eq])
    refine Wp.cond_true (by (simp (disch := (first | (simp only [List.length_set, hl]; omega) | (simp only [List.length_set, el]; omega) | omega | rfl)) only [sL, aEval_tmp])) ?_
    repeat (first | (with_reducible refine Wp.st ?_; simp only [wS]) | with_reducible refine Wp.drawS (by decide +kernel) ?_ | simp (disch := (first | (simp only [List.length_set, hl]; omega) | (simp only [List.length_set, el]; omega) | omega | rfl)) only [walkA, walkB, bne_self_eq_false, beq_self_eq_true, Option.map_some, Option.map_none, reduceIte, decide_true, decide_false, Int.reduceLT, Int.reduceLE, Int.reduceMul, Int.reduceAdd, Int.reduceSub, h0])
    simp (disch := (first | (simp only [List.length_set, hl]; omega) | rfl)) only [aRes_one Try.results50, sL]
    exact ⟨.inl ⟨rfl, rfl⟩, Same.refl _ _, fun j hj => (hnil j hj).elim⟩
  · obtain ⟨a, n, c, hv⟩ : ∃ a n c, bv = .slice (some a) n c := by
      rcases hb with hb | ⟨_, k, off, c, rfl⟩ | ⟨k, off, cap, cs, el, ro, rfl, _⟩
      · exact (hn hb).elim
      · exact ⟨_, _, _, rfl⟩
      · exact ⟨_, _, _, rfl⟩
    have hs0 : Same h (h.push (.cells [] 5 false)) noS := Same.push _ _ _
    have hb2 := hb.same hs0 (fun _ _ _ _ _ x => x)
    have hbuf : Buf (h.push (.cells [] 5 false)) 5 (.slice (some ⟨h.next, 0, none⟩) 0 0) [] := .inr (.inl ⟨rfl, h.next, [], 5, false, rfl, Heap.get_push_new⟩)
    obtain ⟨v1, hh1, ha1, hbv, hs1, hf1⟩ := Buf.append (P := Try.prog) hbuf Try.underlying22 i5 rfl rfl rfl rfl (hb2.src Try.underlying22 (by simp) rfl) rfl hb1 (small_of (by simp; omega)) (small_of (by simp [Try.t5]; omega))
    have hne : ∀ xo yo, aBin Try.prog .eql 22 xo yo bv (.slice none 0 0) = some (.bool false) := fun xo yo => by rw [hv]; exact nil_ne
    repeat (first | (with_reducible refine Wp.st ?_; simp only [wS]) | with_reducible refine Wp.drawS (by decide +kernel) ?_ | simp (disch := (first | (simp only [List.length_set, hl]; omega) | (simp only [List.length_set, el]; omega) | omega | rfl)) only [walkA, walkB, bne_self_eq_false, beq_self_eq_true, Option.map_some, Option.map_none, reduceIte, decide_true, decide_false, Int.reduceLT, Int.reduceLE, Int.reduceMul, Int.reduceAdd, Int.reduceSub, h0, hne])
    refine Wp.cond_false (by (simp (disch := (first | (simp only [List.length_set, hl]; omega) | (simp only [List.length_set, el]; omega) | omega | rfl)) only [sL, aEval_tmp])) ?_
    repeat (first | (with_reducible refine Wp.st ?_; simp only [wS]) | with_reducible refine Wp.drawS (by decide +kernel) ?_ | simp (disch := (first | (simp only [List.length_set, hl]; omega) | (simp only [List.length_set, el]; omega) | omega | rfl)) only [walkA, walkB, bne_self_eq_false, beq_self_eq_true, Option.map_some, Option.map_none, reduceIte, decide_true, decide_false, Int.reduceLT, Int.reduceLE, Int.reduceMul, Int.reduceAdd, Int.reduceSub, h0, slice_none, builtin_append, ha1])
    simp (disch := (first | (simp only [List.length_set, hl]; omega) | rfl)) only [aRes_one Try.results50, sL]
    have hfr : ∀ j, bufBlk (.slice (some ⟨h.next, 0, none⟩) 0 0) j → h.next ≤ j := by
      rintro j ⟨o, m, d, hh⟩
      injection hh with hh; injection hh with hh; injection hh with hh
      omega
    refine ⟨by simpa using hbv, hs0.trans hs1 (fun _ x => x) (fun b hb x => absurd (hfr b x) (by omega)), fun b x => (hf1 b x).elim (hfr b) (fun y => Nat.le_trans (by simp) y)⟩
theorem done_am (w : Nat) (v : Value) (bs : List Value) (h : Heap) (hw : WR h w 134 v bs) (hb1 : bs.all Value.oneCell' = true) (hlen : bs.length ≤ 1000000000) :
    Cl Try.prog 37 [.pointer (some ⟨w, 0, none⟩)] h fun r h' => Buf h' 5 r bs ∧ Same h h' noS ∧ ∀ j, bufBlk r j → h.next ≤ j := by
  refine Cl.enter Try.func37 rfl 8 Try.ntmps37 (by simp) ?_
  intro env hl ha
  have h0 : sl env 0 = .pointer (some ⟨w, 0, none⟩) := ha 0 (by simp)
  clear ha
  have hld := loadW hw.1
  repeat (first | (with_reducible refine Wp.st ?_; simp only [wS]) | with_reducible refine Wp.drawS (by decide +kernel) ?_ | simp (disch := (first | (simp only [List.length_set, hl]; omega) | omega | rfl)) only [walkA, walkB, bne_self_eq_false, beq_self_eq_true, Option.map_some, Option.map_none, reduceIte, decide_true, decide_false, Int.reduceLT, Int.reduceLE, Int.reduceMul, Int.reduceAdd, Int.reduceSub, h0, field65, hld])
  refine (clone_am v bs h hw.2.1.row hb1 hlen).mono ?_
  rintro r h' hq
  repeat (first | (with_reducible refine Wp.st ?_; simp only [wS]) | with_reducible refine Wp.drawS (by decide +kernel) ?_ | simp (disch := (first | (simp only [List.length_set, hl]; omega) | omega | rfl)) only [walkA, walkB, bne_self_eq_false, beq_self_eq_true, Option.map_some, Option.map_none, reduceIte, decide_true, decide_false, Int.reduceLT, Int.reduceLE, Int.reduceMul, Int.reduceAdd, Int.reduceSub, h0])
  simp (disch := (first | (simp only [List.length_set, hl]; omega) | rfl)) only [aRes_one Try.results37, sL]
  exact hq
theorem build65 : aBuild Try.prog 134 [] = some (.agg #[.slice none 0 0]) := by kernel_rfl
theorem box_nil {h : Heap} {T : TypeId} : aBox h T (.agg #[.slice none 0 0]) = some (.pointer (some ⟨h.next, 0, none⟩), h.push (.cells [.slice none 0 0] T false)) := rfl
theorem newWriter_am (h : Heap) : Cl Try.prog 36 [] h fun r h' => r = .pointer (some ⟨h.next, 0, none⟩) ∧ h' = h.push (.cells [.slice none 0 0] 134 false) := by
  refine Cl.enter Try.func36 rfl 3 Try.ntmps36 (by simp) ?_
  intro env hl ha
  clear ha
  repeat (first | (with_reducible refine Wp.st ?_; simp only [wS]) | with_reducible refine Wp.drawS (by decide +kernel) ?_ | simp (disch := (first | (simp only [List.length_set, hl]; omega) | omega | rfl)) only [walkA, walkB, bne_self_eq_false, beq_self_eq_true, Option.map_some, Option.map_none, reduceIte, decide_true, decide_false, Int.reduceLT, Int.reduceLE, Int.reduceMul, Int.reduceAdd, Int.reduceSub, build65, box_nil])
  simp (disch := (first | (simp only [List.length_set, hl]; omega) | rfl)) only [aRes_one Try.results36, sL]
  trivial
theorem WR.new {h : Heap} {T : TypeId} : WR (h.push (.cells [.slice none 0 0] T false)) h.next T (.slice none 0 0) [] :=
  ⟨Heap.get_push_new, .inl ⟨rfl, rfl⟩, by rintro ⟨o, m, d, hh⟩; cases hh⟩
theorem WR.same {h h' : Heap} {T : TypeId} {w : Nat} {v : Value} {bs : List Value} {S : Nat → Prop} (hw : WR h w T v bs) (hs : Same h h' S) (hd : ∀ j, own v w j → ¬ S j) : WR h' w T v bs :=
  ⟨hs.2 w _ hw.1 (hd w (.inl rfl)), hw.2.1.same hs (fun j hj => hd j (.inr hj)), hw.2.2⟩
def TW (h : Heap) (w1 : Nat) (v1 : Value) (w2 : Nat) (v2 : Value) (bs : List Value) : Prop :=
  WR h w1 134 v1 bs ∧ WR h w2 91 v2 bs ∧ (∀ j, own v1 w1 j → ¬ own v2 w2 j) ∧ bs.all Value.oneCell' = true
def both (v1 : Value) (w1 : Nat) (v2 : Value) (w2 : Nat) : Nat → Prop := fun j => own v1 w1 j ∨ own v2 w2 j
theorem TW.two {h h1 h2 : Heap} {w1 w2 : Nat} {v1 v2 : Value} {bs b1 b2 : List Value} {r1 r2 : Value} (t : TW h w1 v1 w2 v2 bs) (q1 : WQ h w1 134 v1 b1 r1 h1) (hb : b1 = b2) (ha : b2.all Value.oneCell' = true) (q2 : WQ h1 w2 91 v2 b2 r2 h2) :
    ∃ v1' v2', TW h2 w1 v1' w2 v2' b2 ∧ Same h h2 (both v1 w1 v2 w2) ∧ ∀ j, both v1' w1 v2' w2 j → both v1 w1 v2 w2 j ∨ h.next ≤ j := by
  subst hb
  obtain ⟨t1, t2, td, ta⟩ := t
  obtain ⟨-, v1', hw1, hs1, hf1⟩ := q1
  obtain ⟨-, v2', hw2, hs2, hf2⟩ := q2
  have hlt2 := t2.lt
  have hd1 : ∀ j, own v1' w1 j → ¬ own v2 w2 j := fun j a b => (hf1 j a).elim (fun x => td j x b) (fun x => absurd (hlt2 j b) (by omega))
  have hlt1 := hw1.lt
  refine ⟨v1', v2', ⟨hw1.same hs2 hd1, hw2, fun j a b => (hf2 j b).elim (hd1 j a) (fun x => absurd (hlt1 j a) (by omega)), ha⟩, ?_, ?_⟩
  · exact hs1.trans hs2 (fun j x => .inl x) (fun j _ x => .inr x)
  · rintro j (x | x)
    · exact (hf1 j x).imp .inl id
    · exact (hf2 j x).elim (fun y => .inl (.inr y)) (fun y => .inr (Nat.le_trans hs1.1 y))
end Go.Proofs.Ytanknjpcgceccaa

namespace Go.Proofs.Ytanknjpcgceccaa
open Go Go.AM
set_option linter.unusedSimpArgs false
set_option maxRecDepth 100000
def strS (bs : List Value) : ByteArray := match intsOf bs with
  | some ns => strOfNums ns
  | none => .empty
def isB (bs : List Value) : Prop := ∃ ns, intsOf bs = some ns
theorem conv_row {h : Heap} {v : Value} {bs : List Value} (r : Row h v bs) (hb : isB bs) : aConv Try.prog h 22 9 v = some (.string (strS bs), h) := by
  obtain ⟨ns, hn⟩ := hb
  have e0 : strS [] = .empty := by rfl
  rcases r with ⟨rfl, rfl⟩ | ⟨rfl, k, off, c, rfl⟩ | ⟨k, off, cap, cs, el, ro, rfl, hg, h1, h2⟩
  · simp only [aConv, Try.underlying22, Try.underlying9, Try.underlying5, e0]
  · simp only [aConv, Try.underlying22, Try.underlying9, Try.underlying5, e0, Nat.beq_refl, cond_true]
  · simp only [aConv, Try.underlying22, Try.underlying9, Try.underlying5]
    cases hz : Nat.beq bs.length 0 with
    | true =>
      have := List.eq_nil_of_length_eq_zero (Nat.eq_of_beq_eq_true hz)
      subst this
      rw [cond_true, e0]
    | false =>
      have hr : rdN h k off bs.length = some bs := by
        simp only [rdN, hg, ble_iff.2 h1, cond_true, h2]
      simp only [cond_false, hr, hn, strS]
theorem intsOf_append : ∀ (a b : List Value) (x y : List Int), intsOf a = some x → intsOf b = some y → intsOf (a ++ b) = some (x ++ y)
  | [], b, x, y, ha, hb => by injection ha with ha; subst ha; exact hb
  | v :: a, b, x, y, ha, hb => by
    simp only [intsOf] at ha
    split at ha
    · rename_i n
      split at ha
      · rename_i r hr
        injection ha with ha; subst ha
        simp only [List.cons_append, intsOf, intsOf_append a b r y hr hb]
      · cases ha
    · cases ha
theorem isB.append {a b : List Value} (ha : isB a) (hb : isB b) : isB (a ++ b) := by
  obtain ⟨x, hx⟩ := ha; obtain ⟨y, hy⟩ := hb
  exact ⟨_, intsOf_append a b x y hx hy⟩
theorem isB.nil : isB [] := ⟨[], rfl⟩
theorem isB.cons {n : Int} {b : List Value} (hb : isB b) : isB (.int .u8 n :: b) := by
  obtain ⟨y, hy⟩ := hb
  exact ⟨n :: y, by simp only [intsOf, hy]⟩
theorem isB.beTo (v : Int) : ∀ n, isB (beTo v n)
  | 0 => .nil
  | n + 1 => .cons (isB.beTo v n)
theorem isB_ints' : ∀ xs : List Int, isB (xs.map (Value.int .u8))
  | [] => isB.nil
  | _ :: xs => isB.cons (isB_ints' xs)
theorem isB.noughts : ∀ n, isB (List.replicate n (.int .u8 0))
  | 0 => .nil
  | n + 1 => by rw [List.replicate_succ]; exact .cons (isB.noughts n)
theorem isB.all {a : List Value} (ha : isB a) : a.all Value.oneCell' = true := by
  obtain ⟨x, hx⟩ := ha
  rw [intsOf_eq a x hx]
  simp [Value.oneCell']
end Go.Proofs.Ytanknjpcgceccaa

namespace Go.Proofs.Ytanknjpcgceccaa
open Go Go.AM
set_option linter.unusedSimpArgs false
set_option maxRecDepth 100000
theorem cut_am (n p : Nat) (hn : n = 4 ∨ n = 8) (bv : Value) (vs : List Value) (h : Heap) (hr : RowX h 5 bv vs) (hlen : vs.length ≤ 1000000000) (hp : p ≤ vs.length) :
    Cl Try.prog 104 [bv, .int .i64 p, .int .i64 n] h fun v h' => h' = h ∧ ((p + n ≤ vs.length ∧ ∃ v', v = .tuple #[v', .int .i64 0] ∧ RowX h 5 v' ((vs.drop p).take n)) ∨ (¬ p + n ≤ vs.length ∧ v = .tuple #[.slice none 0 0, .int .i64 11])) := by
  refine Cl.enter Try.func104 rfl 29 Try.ntmps104 (by simp) ?_
  intro env hl ha
  have h0 : sl env 0 = bv := ha 0 (by simp)
  have h1 : sl env 1 = .int .i64 p := ha 1 (by simp)
  have h2 : sl env 2 = .int .i64 n := ha 2 (by simp)
  clear ha
  repeat (first | (with_reducible refine Wp.st ?_; simp only [wS]) | with_reducible refine Wp.drawS (by decide +kernel) ?_ | simp (disch := (first | (simp only [List.length_set, hl]; omega) | omega | rfl)) only [walkA, walkB, bne_self_eq_false, beq_self_eq_true, Option.map_some, Option.map_none, reduceIte, decide_true, decide_false, Int.reduceLT, Int.reduceLE, Int.reduceMul, Int.reduceAdd, Int.reduceSub, h0, h1, h2])
  refine (size_am n h).mono ?_
  rintro v h' ⟨rfl, rfl⟩
  have e1 : decide ((n : Int) = 1 ∨ (n : Int) = 2 ∨ (n : Int) = 4 ∨ (n : Int) = 8) = true := by simp; omega
  repeat (first | (with_reducible refine Wp.st ?_; simp only [wS]) | with_reducible refine Wp.drawS (by decide +kernel) ?_ | simp (disch := (first | (simp only [List.length_set, hl]; omega) | omega | rfl)) only [walkA, walkB, bne_self_eq_false, beq_self_eq_true, Option.map_some, Option.map_none, reduceIte, decide_true, decide_false, Int.reduceLT, Int.reduceLE, Int.reduceMul, Int.reduceAdd, Int.reduceSub, h0, h1, h2, e1])
  refine Wp.cond_false (by (simp (disch := (first | (simp only [List.length_set, hl]; omega) | omega | rfl)) only [sL, aEval_tmp])) ?_
  have hl2 := len_any hr.row Try.underlying22
  have e2 : decide ((p : Int) < 0) = false := by simp
  by_cases hle : p + n ≤ vs.length
  · have e3 : decide ((p : Int) > (vs.length : Int) - (n : Int)) = false := by simp; omega
    obtain ⟨v', hsl, hrow, _⟩ := hr.slice (P := Try.prog) Try.underlying22 i5 rfl (kl := .i64) (kh := .i64) (lo := p) (hi' := p + n) (by omega) hle
    rw [Nat.add_sub_cancel_left] at hrow
    have e4 : ((p + n : Nat) : Int) = (p : Int) + (n : Int) := by omega
    rw [e4] at hsl
    repeat (first | (with_reducible refine Wp.st ?_; simp only [wS]) | with_reducible refine Wp.drawS (by decide +kernel) ?_ | simp (disch := (first | (simp only [List.length_set, hl]; omega) | omega | rfl)) only [walkA, walkB, bne_self_eq_false, beq_self_eq_true, Option.map_some, Option.map_none, reduceIte, decide_true, decide_false, Int.reduceLT, Int.reduceLE, Int.reduceMul, Int.reduceAdd, Int.reduceSub, h0, h1, h2, e1, e2, e3, hl2])
    refine Wp.cond_false (by (simp (disch := (first | (simp only [List.length_set, hl]; omega) | omega | rfl)) only [sL, aEval_tmp])) ?_
    repeat (first | (with_reducible refine Wp.st ?_; simp only [wS]) | with_reducible refine Wp.drawS (by decide +kernel) ?_ | simp (disch := (first | (simp only [List.length_set, hl]; omega) | omega | rfl)) only [walkA, walkB, bne_self_eq_false, beq_self_eq_true, Option.map_some, Option.map_none, reduceIte, decide_true, decide_false, Int.reduceLT, Int.reduceLE, Int.reduceMul, Int.reduceAdd, Int.reduceSub, h0, h1, h2, WOps_slice2, hsl])
    simp (disch := (first | (simp only [List.length_set, hl]; omega) | omega | rfl)) only [aRes_two Try.results104, sL]
    exact ⟨trivial, .inl ⟨hle, v', rfl, hrow⟩⟩
  · have e3 : decide ((p : Int) > (vs.length : Int) - (n : Int)) = true := by simp; omega
    repeat (first | (with_reducible refine Wp.st ?_; simp only [wS]) | with_reducible refine Wp.drawS (by decide +kernel) ?_ | simp (disch := (first | (simp only [List.length_set, hl]; omega) | omega | rfl)) only [walkA, walkB, bne_self_eq_false, beq_self_eq_true, Option.map_some, Option.map_none, reduceIte, decide_true, decide_false, Int.reduceLT, Int.reduceLE, Int.reduceMul, Int.reduceAdd, Int.reduceSub, h0, h1, h2, e1, e2, e3, hl2])
    refine Wp.cond_true (by (simp (disch := (first | (simp only [List.length_set, hl]; omega) | omega | rfl)) only [sL, aEval_tmp])) ?_
    repeat (first | (with_reducible refine Wp.st ?_; simp only [wS]) | with_reducible refine Wp.drawS (by decide +kernel) ?_ | simp (disch := (first | (simp only [List.length_set, hl]; omega) | omega | rfl)) only [walkA, walkB, bne_self_eq_false, beq_self_eq_true, Option.map_some, Option.map_none, reduceIte, decide_true, decide_false, Int.reduceLT, Int.reduceLE, Int.reduceMul, Int.reduceAdd, Int.reduceSub, h0, h1, h2])
    simp (disch := (first | (simp only [List.length_set, hl]; omega) | omega | rfl)) only [aRes_two Try.results104, sL]
    exact ⟨trivial, .inr ⟨hle, trivial⟩⟩
def stepV (v b : Int) : Int := IntKind.u64.wrap ((BitVec.ofInt IntKind.u64.bits (IntKind.u64.wrap (v * 2 ^ (min (8 : Int).toNat IntKind.u64.bits))) ||| BitVec.ofInt IntKind.u64.bits (IntKind.u64.wrap b)).toNat : Int)
def beF (v : Int) : List Int → Int
  | [] => v
  | b :: bs => beF (stepV v b) bs
theorem beF_append (v : Int) (a b : List Int) : beF v (a ++ b) = beF (beF v a) b := by
  induction a generalizing v with
  | nil => rfl
  | cons x a ih => exact ih _
theorem beF_take (v : Int) (bs : List Int) (j : Nat) (hj : j < bs.length) : beF v (bs.take (j + 1)) = stepV (beF v (bs.take j)) bs[j] := by
  rw [List.take_succ_eq_append_getElem hj, beF_append]; rfl
def beR (bs : List Int) (p n : Nat) : Value := if p + n ≤ bs.length then .tuple #[.int .u64 (beF 0 ((bs.drop p).take n)), .int .i64 0] else .tuple #[.int .u64 0, .int .i64 11]
theorem be_am (n p : Nat) (hn : n = 4 ∨ n = 8) (bv : Value) (bs : List Int) (h : Heap) (hr : RowX h 5 bv (bs.map (Value.int .u8))) (hlen : bs.length ≤ 1000000000) (hp : p ≤ bs.length) :
    Cl Try.prog 102 [bv, .int .i64 p, .int .i64 n] h fun v h' => h' = h ∧ v = beR bs p n := by
  refine Cl.enter Try.func102 rfl 34 Try.ntmps102 (by simp) ?_
  intro env hl ha
  have h0 : sl env 0 = bv := ha 0 (by simp)
  have h1 : sl env 1 = .int .i64 p := ha 1 (by simp)
  have h2 : sl env 2 = .int .i64 n := ha 2 (by simp)
  clear ha
  repeat (first | (with_reducible refine Wp.st ?_; simp only [wS]) | with_reducible refine Wp.drawS (by decide +kernel) ?_ | simp (disch := (first | (simp only [List.length_set, hl]; omega) | (simp only [List.length_set, el]; omega) | omega | rfl)) only [walkA, walkB, bne_self_eq_false, beq_self_eq_true, Option.map_some, Option.map_none, reduceIte, decide_true, decide_false, Int.reduceLT, Int.reduceLE, Int.reduceMul, Int.reduceAdd, Int.reduceSub, h0, h1, h2])
  refine (cut_am n p hn bv _ h hr (by simpa using hlen) (by simpa using hp)).mono ?_
  rintro v h' ⟨rfl, hv⟩
  obtain ⟨row, er, rs, rfl, hrow, hres⟩ : ∃ (row : Value) (er : Int) (rs : List Int), v = .tuple #[row, .int .i64 er] ∧ Row h' row (rs.map (Value.int .u8)) ∧ rs.length ≤ 8 ∧ beR bs p n = .tuple #[.int .u64 (beF 0 rs), .int .i64 er] := by
    rcases hv with ⟨hle, v', rfl, hx⟩ | ⟨hle, rfl⟩
    · simp only [List.length_map] at hle
      refine ⟨v', 0, (bs.drop p).take n, rfl, ?_, by rw [List.length_take]; omega, by unfold beR; rw [if_pos hle]⟩
      have := hx.row
      rwa [← List.map_drop, ← List.map_take] at this
    · simp only [List.length_map] at hle
      exact ⟨.slice none 0 0, 11, [], rfl, .inl ⟨rfl, rfl⟩, by simp, by unfold beR; rw [if_neg hle]; rfl⟩
  obtain ⟨hrl, hres⟩ := hres
  have x0 : aExtract (.tuple #[row, .int .i64 er]) 0 = some row := rfl
  have x1 : aExtract (.tuple #[row, .int .i64 er]) 1 = some (.int .i64 er) := rfl
  have hl2 := len_any hrow Try.underlying22
  repeat (first | (with_reducible refine Wp.st ?_; simp only [wS]) | with_reducible refine Wp.drawS (by decide +kernel) ?_ | simp (disch := (first | (simp only [List.length_set, hl]; omega) | (simp only [List.length_set, el]; omega) | omega | rfl)) only [walkA, walkB, bne_self_eq_false, beq_self_eq_true, Option.map_some, Option.map_none, reduceIte, decide_true, decide_false, Int.reduceLT, Int.reduceLE, Int.reduceMul, Int.reduceAdd, Int.reduceSub, h0, h1, h2, x0, x1, hl2])
  refine Wp.loop (fun m e hh => ∃ j : Nat, j + m = rs.length ∧ e.length = 34 ∧ sl e 9 = .int .i64 er ∧ sl e 10 = .int .u64 (beF 0 (rs.take j)) ∧ sl e 20 = row ∧ sl e 21 = .int .i64 rs.length ∧ sl e 22 = .int .i64 j ∧ hh = h') rs.length
    ⟨0, by omega, by simp [hl], by (simp (disch := (first | (simp only [List.length_set, hl]; omega) | (simp only [List.length_set, el]; omega) | omega | rfl)) only [sL]), by (simp (disch := (first | (simp only [List.length_set, hl]; omega) | (simp only [List.length_set, el]; omega) | omega | rfl)) only [sL]); rfl, by (simp (disch := (first | (simp only [List.length_set, hl]; omega) | (simp only [List.length_set, el]; omega) | omega | rfl)) only [sL]), by (simp (disch := (first | (simp only [List.length_set, hl]; omega) | (simp only [List.length_set, el]; omega) | omega | rfl)) only [sL, List.length_map]), by (simp (disch := (first | (simp only [List.length_set, hl]; omega) | (simp only [List.length_set, el]; omega) | omega | rfl)) only [sL]); rfl, rfl⟩ ?_
  clear h0 h1 h2 hl env hl2 x0 x1
  rintro m e hh ⟨j, hj, el, e9, e10, e20, e21, e22, rfl⟩
  repeat (first | (with_reducible refine Wp.st ?_; simp only [wS]) | with_reducible refine Wp.drawS (by decide +kernel) ?_ | simp (disch := (first | (simp only [List.length_set, hl]; omega) | (simp only [List.length_set, el]; omega) | omega | rfl)) only [walkA, walkB, bne_self_eq_false, beq_self_eq_true, Option.map_some, Option.map_none, reduceIte, decide_true, decide_false, Int.reduceLT, Int.reduceLE, Int.reduceMul, Int.reduceAdd, Int.reduceSub, e9, e10, e20, e21, e22])
  by_cases hlt : j < rs.length
  · refine Wp.cond_true (by (simp (disch := (first | (simp only [List.length_set, hl]; omega) | (simp only [List.length_set, el]; omega) | omega | rfl)) only [sL, aEval_tmp]); simpa using hlt) ?_
    obtain ⟨k, off, hx1, hx2⟩ := hrow.index (P := Try.prog) Try.underlying22 i5 rfl (j := j) (kd := .i64) (by simpa using hlt)
    rw [← aLoad_one (P := Try.prog) Try.underlying5 (by simp) (by simp), List.getElem_map] at hx2
    have hcv := fun x hx => conv_int (h := hx) (k' := .u8) (n := x) Try.underlying5 Try.underlying24
    repeat (first | (with_reducible refine Wp.st ?_; simp only [wS]) | with_reducible refine Wp.drawS (by decide +kernel) ?_ | simp (disch := (first | (simp only [List.length_set, hl]; omega) | (simp only [List.length_set, el]; omega) | omega | rfl)) only [walkA, walkB, bne_self_eq_false, beq_self_eq_true, Option.map_some, Option.map_none, reduceIte, decide_true, decide_false, Int.reduceLT, Int.reduceLE, Int.reduceMul, Int.reduceAdd, Int.reduceSub, e9, e10, e20, e21, e22, hx1, hx2, hcv])
    exact ⟨m - 1, by omega, j + 1, by omega, by simp [el], by (simp (disch := (first | (simp only [List.length_set, hl]; omega) | (simp only [List.length_set, el]; omega) | omega | rfl)) only [sL, e9]), by rw [beF_take _ _ _ hlt]; first | rfl | ((simp (disch := (first | (simp only [List.length_set, hl]; omega) | (simp only [List.length_set, el]; omega) | omega | rfl)) only [sL]); rfl), by (simp (disch := (first | (simp only [List.length_set, hl]; omega) | (simp only [List.length_set, el]; omega) | omega | rfl)) only [sL, e20]), by (simp (disch := (first | (simp only [List.length_set, hl]; omega) | (simp only [List.length_set, el]; omega) | omega | rfl)) only [sL, e21]), by (simp (disch := (first | (simp only [List.length_set, hl]; omega) | (simp only [List.length_set, el]; omega) | omega | rfl)) only [sL, Int.natCast_add]); rfl, trivial⟩
  · refine Wp.cond_false (by (simp (disch := (first | (simp only [List.length_set, hl]; omega) | (simp only [List.length_set, el]; omega) | omega | rfl)) only [sL, aEval_tmp]); simpa using hlt) ?_
    have hjl : j = rs.length := by omega
    subst hjl
    rw [List.take_length] at e10
    repeat (first | (with_reducible refine Wp.st ?_; simp only [wS]) | with_reducible refine Wp.drawS (by decide +kernel) ?_ | simp (disch := (first | (simp only [List.length_set, hl]; omega) | (simp only [List.length_set, el]; omega) | omega | rfl)) only [walkA, walkB, bne_self_eq_false, beq_self_eq_true, Option.map_some, Option.map_none, reduceIte, decide_true, decide_false, Int.reduceLT, Int.reduceLE, Int.reduceMul, Int.reduceAdd, Int.reduceSub, e9, e10, e20, e21, e22])
    simp (disch := (first | (simp only [List.length_set, el]; omega) | omega | rfl)) only [aRes_two Try.results102, sL]
    rw [hres]
    trivial
end Go.Proofs.Ytanknjpcgceccaa

namespace Go.Proofs.Ytanknjpcgceccaa
open Go Go.AM
set_option linter.unusedSimpArgs false
set_option maxRecDepth 100000
end Go.Proofs.Ytanknjpcgceccaa

namespace Go.Proofs.Ytanknjpcgceccaa
open Go Go.AM
set_option linter.unusedSimpArgs false
set_option maxRecDepth 100000
theorem i3' : Try.prog.info? 3 = some Try.t3 := by kernel_rfl
theorem iErr : Try.prog.info? 43 = some Try.t43 := by kernel_rfl
section
variable {k off : Nat}
theorem faR0 : aFieldAddr Try.prog 113 (.pointer (some ⟨k, off, none⟩)) 0 = some (.pointer (some ⟨k, off, none⟩)) := by kernel_rfl
theorem faP0 : aFieldAddr Try.prog 111 (.pointer (some ⟨k, off, none⟩)) 0 = some (.pointer (some ⟨k, off, none⟩)) := by kernel_rfl
theorem faP1 : aFieldAddr Try.prog 111 (.pointer (some ⟨k, off, none⟩)) 1 = some (.pointer (some ⟨k, off + 1, none⟩)) := by kernel_rfl
theorem faP2 : aFieldAddr Try.prog 111 (.pointer (some ⟨k, off, none⟩)) 2 = some (.pointer (some ⟨k, off + 2, none⟩)) := by kernel_rfl
end
def RD (h : Heap) (k : Nat) (T : TypeId) (bv : Value) (s : Nat × Int) : Prop := h.get k = some (.cells [bv, .int .i64 s.1, .int .i64 s.2] T false)
section
variable {h : Heap} {k : Nat} {T : TypeId} {bv : Value} {s : Nat × Int}
theorem RD.b (r : RD h k T bv s) : aLoad Try.prog h 22 (.pointer (some ⟨k, 0, none⟩)) = some bv := by rw [aLoad_at Try.underlying22 (by simp) (by simp) r]; rfl
theorem RD.p (r : RD h k T bv s) : aLoad Try.prog h 3 (.pointer (some ⟨k, 0 + 1, none⟩)) = some (.int .i64 s.1) := by rw [aLoad_at Try.underlying3 (by simp) (by simp) r]; rfl
theorem RD.e (r : RD h k T bv s) : aLoad Try.prog h 43 (.pointer (some ⟨k, 0 + 2, none⟩)) = some (.int .i64 s.2) := by rw [aLoad_at Try.underlying43 (by simp) (by simp) r]; rfl
theorem RD.wp (r : RD h k T bv s) (n : Int) : aStore Try.prog h 3 (.pointer (some ⟨k, 0 + 1, none⟩)) (.int .i64 n) = some (h.set k (.cells [bv, .int .i64 n, .int .i64 s.2] T false)) := by rw [aStore_at i3' rfl r (0 + 1) (by simp) rfl rfl]; rfl
theorem RD.we (r : RD h k T bv s) (n : Int) : aStore Try.prog h 43 (.pointer (some ⟨k, 0 + 2, none⟩)) (.int .i64 n) = some (h.set k (.cells [bv, .int .i64 s.1, .int .i64 n] T false)) := by rw [aStore_at iErr rfl r (0 + 2) (by simp) rfl rfl]; rfl
theorem RD.setp (r : RD h k T bv s) (n : Nat) : RD (h.set k (.cells [bv, .int .i64 n, .int .i64 s.2] T false)) k T bv (n, s.2) := Heap.get_set_eq r
theorem RD.sete (r : RD h k T bv s) (n : Int) : RD (h.set k (.cells [bv, .int .i64 s.1, .int .i64 n] T false)) k T bv (s.1, n) := Heap.get_set_eq r
end
theorem fail_am (x : Int) (k : Nat) (T : TypeId) (bv : Value) (s : Nat × Int) (h : Heap) (r : RD h k T bv s) :
    Cl Try.prog 95 [.pointer (some ⟨k, 0, none⟩), .int .i64 x] h fun v h' => v = .tuple #[] ∧ RD h' k T bv (s.1, if s.2 = 0 then x else s.2) ∧ Same h h' (onlyS k) := by
  refine Cl.enter Try.func95 rfl 13 Try.ntmps95 (by simp) ?_
  intro env hl ha
  have h0 : sl env 0 = .pointer (some ⟨k, 0, none⟩) := ha 0 (by simp)
  have h1 : sl env 1 = .int .i64 x := ha 1 (by simp)
  clear ha
  have le := r.e
  by_cases hz : s.2 = 0
  · have hzb : (s.2 == 0) = true := by simpa using hz
    have we := r.we x
    repeat (first | (with_reducible refine Wp.st ?_; simp only [wS]) | with_reducible refine Wp.drawS (by decide +kernel) ?_ | simp (disch := (first | (simp only [List.length_set, hl]; omega) | omega | rfl)) only [walkA, walkB, bne_self_eq_false, beq_self_eq_true, Option.map_some, Option.map_none, reduceIte, decide_true, decide_false, Int.reduceLT, Int.reduceLE, Int.reduceMul, Int.reduceAdd, Int.reduceSub, h0, h1, faP2, le, hzb])
    refine Wp.cond_true (by (simp (disch := (first | (simp only [List.length_set, hl]; omega) | omega | rfl)) only [sL, aEval_tmp])) ?_
    repeat (first | (with_reducible refine Wp.st ?_; simp only [wS]) | with_reducible refine Wp.drawS (by decide +kernel) ?_ | simp (disch := (first | (simp only [List.length_set, hl]; omega) | omega | rfl)) only [walkA, walkB, bne_self_eq_false, beq_self_eq_true, Option.map_some, Option.map_none, reduceIte, decide_true, decide_false, Int.reduceLT, Int.reduceLE, Int.reduceMul, Int.reduceAdd, Int.reduceSub, h0, h1, faP2, we])
    simp only [aRes_none Try.results95]
    rw [if_pos hz]
    exact ⟨trivial, r.sete x, Same.set1 _ _ _⟩
  · have hzb : (s.2 == 0) = false := by simpa using hz
    repeat (first | (with_reducible refine Wp.st ?_; simp only [wS]) | with_reducible refine Wp.drawS (by decide +kernel) ?_ | simp (disch := (first | (simp only [List.length_set, hl]; omega) | omega | rfl)) only [walkA, walkB, bne_self_eq_false, beq_self_eq_true, Option.map_some, Option.map_none, reduceIte, decide_true, decide_false, Int.reduceLT, Int.reduceLE, Int.reduceMul, Int.reduceAdd, Int.reduceSub, h0, h1, faP2, le, hzb])
    refine Wp.cond_false (by (simp (disch := (first | (simp only [List.length_set, hl]; omega) | omega | rfl)) only [sL, aEval_tmp])) ?_
    repeat (first | (with_reducible refine Wp.st ?_; simp only [wS]) | with_reducible refine Wp.drawS (by decide +kernel) ?_ | simp (disch := (first | (simp only [List.length_set, hl]; omega) | omega | rfl)) only [walkA, walkB, bne_self_eq_false, beq_self_eq_true, Option.map_some, Option.map_none, reduceIte, decide_true, decide_false, Int.reduceLT, Int.reduceLE, Int.reduceMul, Int.reduceAdd, Int.reduceSub, h0, h1])
    simp only [aRes_none Try.results95]
    rw [if_neg hz]
    exact ⟨trivial, r, Same.refl _ _⟩
def rNum (bs : List Int) (n : Nat) (s : Nat × Int) : Int × Nat × Int :=
  if s.2 ≠ 0 then (0, s) else if s.1 + n ≤ bs.length then (beF 0 ((bs.drop s.1).take n), s.1 + n, 0) else (0, s.1, 11)
def rBool (bs : List Int) (s : Nat × Int) : Bool × Nat × Int :=
  if (rNum bs 4 s).1 > 1 then (false, s.1, 15) else ((rNum bs 4 s).1 == 1, (rNum bs 4 s).2)
def rFixed (bs : List Int) (n : Int) (s : Nat × Int) : List Int × Nat × Int :=
  if s.2 ≠ 0 then ([], s) else if n < 0 then ([], s.1, 1) else if bs.length < s.1 + n.toNat + pad n.toNat then ([], s.1, 11)
  else if ((bs.drop (s.1 + n.toNat)).take (pad n.toNat)).all (· == 0) then ((bs.drop s.1).take n.toNat, s.1 + n.toNat + pad n.toNat, 0) else ([], s.1, 15)
def rBytes (bs : List Int) (most : Int) (s : Nat × Int) : List Int × Nat × Int :=
  if (rNum bs 4 s).2.2 ≠ 0 then ([], s.1, (rNum bs 4 s).2.2) else if (rNum bs 4 s).1 > most then ([], s.1, 5)
  else if (rFixed bs (rNum bs 4 s).1 (rNum bs 4 s).2).2.2 ≠ 0 then ([], s.1, (rFixed bs (rNum bs 4 s).1 (rNum bs 4 s).2).2.2) else rFixed bs (rNum bs 4 s).1 (rNum bs 4 s).2
structure RdOK (h : Heap) (k : Nat) (T : TypeId) (bv : Value) (bs : List Int) (s : Nat × Int) : Prop where
  rd : RD h k T bv s
  row : RowX h 5 bv (bs.map (Value.int .u8))
  off : ∀ a n c, bv = .slice (some a) n c → n ≠ 0 → a.block ≠ k
  len : bs.length ≤ 1000000000
  pos : s.1 ≤ bs.length
  byte : ∀ b ∈ bs, 0 ≤ b ∧ b < 256
section
variable {h h' : Heap} {k : Nat} {T : TypeId} {bv : Value} {bs : List Int} {s s' : Nat × Int}
theorem RdOK.next (r : RdOK h k T bv bs s) (hr : RD h' k T bv s') (hs : Same h h' (onlyS k)) (hp : s'.1 ≤ bs.length) : RdOK h' k T bv bs s' :=
  ⟨hr, r.row.same hs (fun a n c e hn => r.off a n c e hn), r.off, r.len, hp, r.byte⟩
theorem RdOK.same {S : Nat → Prop} (r : RdOK h k T bv bs s) (hs : Same h h' S) (hk : ¬ S k) (ho : ∀ a n c, bv = .slice (some a) n c → n ≠ 0 → ¬ S a.block) : RdOK h' k T bv bs s :=
  ⟨hs.2 k _ r.rd hk, r.row.same hs ho, r.off, r.len, r.pos, r.byte⟩
end
theorem number_am (n : Nat) (hn : n = 4 ∨ n = 8) (k : Nat) (T : TypeId) (bv : Value) (bs : List Int) (s : Nat × Int) (h : Heap) (r : RdOK h k T bv bs s) :
    Cl Try.prog 94 [.pointer (some ⟨k, 0, none⟩), .int .i64 n] h fun v h' => v = .int .u64 (rNum bs n s).1 ∧ RdOK h' k T bv bs (rNum bs n s).2 ∧ Same h h' (onlyS k) := by
  refine Cl.enter Try.func94 rfl 37 Try.ntmps94 (by simp) ?_
  intro env hl ha
  have h0 : sl env 0 = .pointer (some ⟨k, 0, none⟩) := ha 0 (by simp)
  have h1 : sl env 1 = .int .i64 n := ha 1 (by simp)
  clear ha
  have lb := r.rd.b
  have lp := r.rd.p
  repeat (first | (with_reducible refine Wp.st ?_; simp only [wS]) | with_reducible refine Wp.drawS (by decide +kernel) ?_ | simp (disch := (first | (simp only [List.length_set, hl]; omega) | omega | rfl)) only [walkA, walkB, bne_self_eq_false, beq_self_eq_true, Option.map_some, Option.map_none, reduceIte, decide_true, decide_false, Int.reduceLT, Int.reduceLE, Int.reduceMul, Int.reduceAdd, Int.reduceSub, h0, h1, faP0, faP1, lb, lp])
  refine (be_am n s.1 hn bv bs h r.row r.len r.pos).mono ?_
  rintro v h' ⟨rfl, rfl⟩
  obtain ⟨x, e, hbe, hx⟩ : ∃ (x e : Int), beR bs s.1 n = .tuple #[.int .u64 x, .int .i64 e] ∧ ((s.1 + n ≤ bs.length ∧ x = beF 0 ((bs.drop s.1).take n) ∧ e = 0) ∨ (¬ s.1 + n ≤ bs.length ∧ x = 0 ∧ e = 11)) := by
    unfold beR
    by_cases hle : s.1 + n ≤ bs.length
    · exact ⟨_, _, by rw [if_pos hle], .inl ⟨hle, rfl, rfl⟩⟩
    · exact ⟨_, _, by rw [if_neg hle], .inr ⟨hle, rfl, rfl⟩⟩
  have x0 : aExtract (.tuple #[.int .u64 x, .int .i64 e]) 0 = some (.int .u64 x) := rfl
  have x1 : aExtract (.tuple #[.int .u64 x, .int .i64 e]) 1 = some (.int .i64 e) := rfl
  repeat (first | (with_reducible refine Wp.st ?_; simp only [wS]) | with_reducible refine Wp.drawS (by decide +kernel) ?_ | simp (disch := (first | (simp only [List.length_set, hl]; omega) | omega | rfl)) only [walkA, walkB, bne_self_eq_false, beq_self_eq_true, Option.map_some, Option.map_none, reduceIte, decide_true, decide_false, Int.reduceLT, Int.reduceLE, Int.reduceMul, Int.reduceAdd, Int.reduceSub, h0, h1, hbe, x0, x1])
  refine (fail_am e k T bv s h' r.rd).mono ?_
  rintro v h2 ⟨rfl, r2, s2⟩
  have le := r2.e
  by_cases hz : s.2 = 0
  · rw [if_pos hz] at r2 le
    rcases hx with ⟨hle, rfl, rfl⟩ | ⟨hle, rfl, rfl⟩
    · have lp := r2.p
      have wp := r2.wp (s.1 + n)
      have w1 : IntKind.i64.wrap ((s.1 : Int) + (n : Int)) = (s.1 : Int) + (n : Int) := wrap_i64 (by omega) (by have := r.len; omega)
      repeat (first | (with_reducible refine Wp.st ?_; simp only [wS]) | with_reducible refine Wp.drawS (by decide +kernel) ?_ | simp (disch := (first | (simp only [List.length_set, hl]; omega) | omega | rfl)) only [walkA, walkB, bne_self_eq_false, beq_self_eq_true, Option.map_some, Option.map_none, reduceIte, decide_true, decide_false, Int.reduceLT, Int.reduceLE, Int.reduceMul, Int.reduceAdd, Int.reduceSub, h0, h1, faP2, le])
      refine Wp.cond_false (by (simp (disch := (first | (simp only [List.length_set, hl]; omega) | omega | rfl)) only [sL, aEval_tmp])) ?_
      repeat (first | (with_reducible refine Wp.st ?_; simp only [wS]) | with_reducible refine Wp.drawS (by decide +kernel) ?_ | simp (disch := (first | (simp only [List.length_set, hl]; omega) | omega | rfl)) only [walkA, walkB, bne_self_eq_false, beq_self_eq_true, Option.map_some, Option.map_none, reduceIte, decide_true, decide_false, Int.reduceLT, Int.reduceLE, Int.reduceMul, Int.reduceAdd, Int.reduceSub, h0, h1, faP1, lp, w1, wp])
      simp (disch := (first | (simp only [List.length_set, hl]; omega) | omega | rfl)) only [aRes_one Try.results94, sL]
      have e1 : rNum bs n s = (beF 0 ((bs.drop s.1).take n), s.1 + n, 0) := by unfold rNum; rw [if_neg (by simp [hz]), if_pos hle]
      rw [e1]
      have r3 := r2.setp (s.1 + n)
      have s3 := s2.then (Same.set1 h2 k (.cells [bv, .int .i64 (s.1 + n : Nat), .int .i64 0] T false))
      refine ⟨rfl, ?_, ?_⟩
      · exact r.next (by simpa using r3) (by simpa using s3) hle
      · simpa using s3
    · have e1 : rNum bs n s = (0, s.1, 11) := by unfold rNum; rw [if_neg (by simp [hz]), if_neg hle]
      repeat (first | (with_reducible refine Wp.st ?_; simp only [wS]) | with_reducible refine Wp.drawS (by decide +kernel) ?_ | simp (disch := (first | (simp only [List.length_set, hl]; omega) | omega | rfl)) only [walkA, walkB, bne_self_eq_false, beq_self_eq_true, Option.map_some, Option.map_none, reduceIte, decide_true, decide_false, Int.reduceLT, Int.reduceLE, Int.reduceMul, Int.reduceAdd, Int.reduceSub, h0, h1, faP2, le])
      refine Wp.cond_true (by (simp (disch := (first | (simp only [List.length_set, hl]; omega) | omega | rfl)) only [sL, aEval_tmp]); rfl) ?_
      repeat (first | (with_reducible refine Wp.st ?_; simp only [wS]) | with_reducible refine Wp.drawS (by decide +kernel) ?_ | simp (disch := (first | (simp only [List.length_set, hl]; omega) | omega | rfl)) only [walkA, walkB, bne_self_eq_false, beq_self_eq_true, Option.map_some, Option.map_none, reduceIte, decide_true, decide_false, Int.reduceLT, Int.reduceLE, Int.reduceMul, Int.reduceAdd, Int.reduceSub, h0, h1])
      simp (disch := (first | (simp only [List.length_set, hl]; omega) | omega | rfl)) only [aRes_one Try.results94, sL]
      rw [e1]
      exact ⟨rfl, r.next r2 s2 r.pos, s2⟩
  · rw [if_neg hz] at r2 le
    have e1 : rNum bs n s = (0, s) := by unfold rNum; rw [if_pos hz]
    have hzb : (s.2 != 0) = true := by simpa using hz
    repeat (first | (with_reducible refine Wp.st ?_; simp only [wS]) | with_reducible refine Wp.drawS (by decide +kernel) ?_ | simp (disch := (first | (simp only [List.length_set, hl]; omega) | omega | rfl)) only [walkA, walkB, bne_self_eq_false, beq_self_eq_true, Option.map_some, Option.map_none, reduceIte, decide_true, decide_false, Int.reduceLT, Int.reduceLE, Int.reduceMul, Int.reduceAdd, Int.reduceSub, h0, h1, faP2, le, hzb])
    refine Wp.cond_true (by (simp (disch := (first | (simp only [List.length_set, hl]; omega) | omega | rfl)) only [sL, aEval_tmp])) ?_
    repeat (first | (with_reducible refine Wp.st ?_; simp only [wS]) | with_reducible refine Wp.drawS (by decide +kernel) ?_ | simp (disch := (first | (simp only [List.length_set, hl]; omega) | omega | rfl)) only [walkA, walkB, bne_self_eq_false, beq_self_eq_true, Option.map_some, Option.map_none, reduceIte, decide_true, decide_false, Int.reduceLT, Int.reduceLE, Int.reduceMul, Int.reduceAdd, Int.reduceSub, h0, h1])
    simp (disch := (first | (simp only [List.length_set, hl]; omega) | omega | rfl)) only [aRes_one Try.results94, sL]
    rw [e1]
    exact ⟨rfl, r.next r2 s2 r.pos, s2⟩
end Go.Proofs.Ytanknjpcgceccaa

namespace Go.Proofs.Ytanknjpcgceccaa
open Go Go.AM
set_option linter.unusedSimpArgs false
set_option maxRecDepth 100000
section
variable (k : Nat) (T : TypeId) (bv : Value) (bs : List Int) (s : Nat × Int) (h : Heap)
theorem rU32_am (r : RdOK h k T bv bs s) :
    Cl Try.prog 78 [.pointer (some ⟨k, 0, none⟩)] h fun v h' => v = .int .u32 (IntKind.u32.wrap (rNum bs 4 s).1) ∧ RdOK h' k T bv bs (rNum bs 4 s).2 ∧ Same h h' (onlyS k) := by
  refine Cl.enter Try.func78 rfl 8 Try.ntmps78 (by simp) ?_
  intro env hl ha
  have h0 : sl env 0 = .pointer (some ⟨k, 0, none⟩) := ha 0 (by simp)
  clear ha
  have hcv := fun x hx => conv_int (h := hx) (k' := .u64) (n := x) Try.underlying24 Try.underlying23
  repeat (first | (with_reducible refine Wp.st ?_; simp only [wS]) | with_reducible refine Wp.drawS (by decide +kernel) ?_ | simp (disch := (first | (simp only [List.length_set, hl]; omega) | omega | rfl)) only [walkA, walkB, bne_self_eq_false, beq_self_eq_true, Option.map_some, Option.map_none, reduceIte, decide_true, decide_false, Int.reduceLT, Int.reduceLE, Int.reduceMul, Int.reduceAdd, Int.reduceSub, h0, faR0])
  refine (number_am 4 (.inl rfl) k T bv bs s h r).mono ?_
  rintro v h' ⟨rfl, r', hs⟩
  repeat (first | (with_reducible refine Wp.st ?_; simp only [wS]) | with_reducible refine Wp.drawS (by decide +kernel) ?_ | simp (disch := (first | (simp only [List.length_set, hl]; omega) | omega | rfl)) only [walkA, walkB, bne_self_eq_false, beq_self_eq_true, Option.map_some, Option.map_none, reduceIte, decide_true, decide_false, Int.reduceLT, Int.reduceLE, Int.reduceMul, Int.reduceAdd, Int.reduceSub, h0, hcv])
  simp (disch := (first | (simp only [List.length_set, hl]; omega) | omega | rfl)) only [aRes_one Try.results78, sL]
  exact ⟨trivial, r', hs⟩
theorem rU64_am (r : RdOK h k T bv bs s) :
    Cl Try.prog 80 [.pointer (some ⟨k, 0, none⟩)] h fun v h' => v = .int .u64 (rNum bs 8 s).1 ∧ RdOK h' k T bv bs (rNum bs 8 s).2 ∧ Same h h' (onlyS k) := by
  refine Cl.enter Try.func80 rfl 7 Try.ntmps80 (by simp) ?_
  intro env hl ha
  have h0 : sl env 0 = .pointer (some ⟨k, 0, none⟩) := ha 0 (by simp)
  clear ha
  repeat (first | (with_reducible refine Wp.st ?_; simp only [wS]) | with_reducible refine Wp.drawS (by decide +kernel) ?_ | simp (disch := (first | (simp only [List.length_set, hl]; omega) | omega | rfl)) only [walkA, walkB, bne_self_eq_false, beq_self_eq_true, Option.map_some, Option.map_none, reduceIte, decide_true, decide_false, Int.reduceLT, Int.reduceLE, Int.reduceMul, Int.reduceAdd, Int.reduceSub, h0, faR0])
  refine (number_am 8 (.inr rfl) k T bv bs s h r).mono ?_
  rintro v h' ⟨rfl, r', hs⟩
  repeat (first | (with_reducible refine Wp.st ?_; simp only [wS]) | with_reducible refine Wp.drawS (by decide +kernel) ?_ | simp (disch := (first | (simp only [List.length_set, hl]; omega) | omega | rfl)) only [walkA, walkB, bne_self_eq_false, beq_self_eq_true, Option.map_some, Option.map_none, reduceIte, decide_true, decide_false, Int.reduceLT, Int.reduceLE, Int.reduceMul, Int.reduceAdd, Int.reduceSub, h0])
  simp (disch := (first | (simp only [List.length_set, hl]; omega) | omega | rfl)) only [aRes_one Try.results80, sL]
  exact ⟨trivial, r', hs⟩
theorem rBool_am (r : RdOK h k T bv bs s) :
    Cl Try.prog 76 [.pointer (some ⟨k, 0, none⟩)] h fun v h' => v = .bool (rBool bs s).1 ∧ RdOK h' k T bv bs (rBool bs s).2 ∧ Same h h' (onlyS k) := by
  refine Cl.enter Try.func76 rfl 27 Try.ntmps76 (by simp) ?_
  intro env hl ha
  have h0 : sl env 0 = .pointer (some ⟨k, 0, none⟩) := ha 0 (by simp)
  clear ha
  have lp := r.rd.p
  repeat (first | (with_reducible refine Wp.st ?_; simp only [wS]) | with_reducible refine Wp.drawS (by decide +kernel) ?_ | simp (disch := (first | (simp only [List.length_set, hl]; omega) | omega | rfl)) only [walkA, walkB, bne_self_eq_false, beq_self_eq_true, Option.map_some, Option.map_none, reduceIte, decide_true, decide_false, Int.reduceLT, Int.reduceLE, Int.reduceMul, Int.reduceAdd, Int.reduceSub, h0, faR0, faP1, lp])
  refine (number_am 4 (.inl rfl) k T bv bs s h r).mono ?_
  rintro v h' ⟨rfl, r', hs⟩
  by_cases hgt : (rNum bs 4 s).1 > 1
  · have d1 : decide ((rNum bs 4 s).1 > 1) = true := by simpa using hgt
    have hne : ((rNum bs 4 s).1 == 1) = false := by simp; omega
    have wp := r'.rd.wp s.1
    have r2 := r'.rd.setp s.1
    repeat (first | (with_reducible refine Wp.st ?_; simp only [wS]) | with_reducible refine Wp.drawS (by decide +kernel) ?_ | simp (disch := (first | (simp only [List.length_set, hl]; omega) | omega | rfl)) only [walkA, walkB, bne_self_eq_false, beq_self_eq_true, Option.map_some, Option.map_none, reduceIte, decide_true, decide_false, Int.reduceLT, Int.reduceLE, Int.reduceMul, Int.reduceAdd, Int.reduceSub, h0, faR0, d1])
    refine Wp.cond_true (by first | ((simp (disch := (first | (simp only [List.length_set, hl]; omega) | omega | rfl)) only [sL, aEval_tmp]); done) | ((simp (disch := (first | (simp only [List.length_set, hl]; omega) | omega | rfl)) only [sL, aEval_tmp]); rfl)) ?_
    repeat (first | (with_reducible refine Wp.st ?_; simp only [wS]) | with_reducible refine Wp.drawS (by decide +kernel) ?_ | simp (disch := (first | (simp only [List.length_set, hl]; omega) | omega | rfl)) only [walkA, walkB, bne_self_eq_false, beq_self_eq_true, Option.map_some, Option.map_none, reduceIte, decide_true, decide_false, Int.reduceLT, Int.reduceLE, Int.reduceMul, Int.reduceAdd, Int.reduceSub, h0, faR0, faP1, wp])
    refine (fail_am 15 k T bv _ _ r2).mono ?_
    rintro v h3 ⟨rfl, r3, s3⟩
    repeat (first | (with_reducible refine Wp.st ?_; simp only [wS]) | with_reducible refine Wp.drawS (by decide +kernel) ?_ | simp (disch := (first | (simp only [List.length_set, hl]; omega) | omega | rfl)) only [walkA, walkB, bne_self_eq_false, beq_self_eq_true, Option.map_some, Option.map_none, reduceIte, decide_true, decide_false, Int.reduceLT, Int.reduceLE, Int.reduceMul, Int.reduceAdd, Int.reduceSub, h0, hne])
    simp (disch := (first | (simp only [List.length_set, hl]; omega) | omega | rfl)) only [aRes_one Try.results76, sL]
    have hz : (rNum bs 4 s).2.2 = 0 := by
      unfold rNum at hgt ⊢
      split
      · rename_i hh; rw [if_pos hh] at hgt; simp at hgt
      · rename_i hh; rw [if_neg hh] at hgt
        split
        · rfl
        · rename_i h2; rw [if_neg h2] at hgt; simp at hgt
    have e1 : rBool bs s = (false, s.1, 15) := by unfold rBool; rw [if_pos hgt]
    simp only [hz, if_true] at r3
    rw [e1]
    have s4 := (hs.then (Same.set1 h' k _)).then s3
    exact ⟨rfl, r.next r3 s4 r.pos, s4⟩
  · have d1 : decide ((rNum bs 4 s).1 > 1) = false := by simpa using hgt
    have e1 : rBool bs s = ((rNum bs 4 s).1 == 1, (rNum bs 4 s).2) := by unfold rBool; rw [if_neg hgt]
    repeat (first | (with_reducible refine Wp.st ?_; simp only [wS]) | with_reducible refine Wp.drawS (by decide +kernel) ?_ | simp (disch := (first | (simp only [List.length_set, hl]; omega) | omega | rfl)) only [walkA, walkB, bne_self_eq_false, beq_self_eq_true, Option.map_some, Option.map_none, reduceIte, decide_true, decide_false, Int.reduceLT, Int.reduceLE, Int.reduceMul, Int.reduceAdd, Int.reduceSub, h0, faR0, d1])
    refine Wp.cond_false (by first | ((simp (disch := (first | (simp only [List.length_set, hl]; omega) | omega | rfl)) only [sL, aEval_tmp]); done) | ((simp (disch := (first | (simp only [List.length_set, hl]; omega) | omega | rfl)) only [sL, aEval_tmp]); rfl)) ?_
    repeat (first | (with_reducible refine Wp.st ?_; simp only [wS]) | with_reducible refine Wp.drawS (by decide +kernel) ?_ | simp (disch := (first | (simp only [List.length_set, hl]; omega) | omega | rfl)) only [walkA, walkB, bne_self_eq_false, beq_self_eq_true, Option.map_some, Option.map_none, reduceIte, decide_true, decide_false, Int.reduceLT, Int.reduceLE, Int.reduceMul, Int.reduceAdd, Int.reduceSub, h0])
    simp (disch := (first | (simp only [List.length_set, hl]; omega) | omega | rfl)) only [aRes_one Try.results76, sL]
    rw [e1]
    exact ⟨rfl, r', hs⟩
theorem rErr_am (r : RD h k T bv s) : Cl Try.prog 60 [.pointer (some ⟨k, 0, none⟩)] h fun v h' => v = .int .i64 s.2 ∧ h' = h := by
  refine Cl.enter Try.func60 rfl 8 Try.ntmps60 (by simp) ?_
  intro env hl ha
  have h0 : sl env 0 = .pointer (some ⟨k, 0, none⟩) := ha 0 (by simp)
  clear ha
  have lp := r.e
  repeat (first | (with_reducible refine Wp.st ?_; simp only [wS]) | with_reducible refine Wp.drawS (by decide +kernel) ?_ | simp (disch := (first | (simp only [List.length_set, hl]; omega) | omega | rfl)) only [walkA, walkB, bne_self_eq_false, beq_self_eq_true, Option.map_some, Option.map_none, reduceIte, decide_true, decide_false, Int.reduceLT, Int.reduceLE, Int.reduceMul, Int.reduceAdd, Int.reduceSub, h0, faR0, faP2, lp])
  simp (disch := (first | (simp only [List.length_set, hl]; omega) | omega | rfl)) only [aRes_one Try.results60, sL]
  exact ⟨trivial, trivial⟩
theorem rLeft_am (r : RdOK h k T bv bs s) : Cl Try.prog 61 [.pointer (some ⟨k, 0, none⟩)] h fun v h' => v = .int .i64 ((bs.length : Int) - s.1) ∧ h' = h := by
  refine Cl.enter Try.func61 rfl 15 Try.ntmps61 (by simp) ?_
  intro env hl ha
  have h0 : sl env 0 = .pointer (some ⟨k, 0, none⟩) := ha 0 (by simp)
  clear ha
  have lb := r.rd.b
  have lp := r.rd.p
  have hl2 := len_any r.row.row Try.underlying22
  simp only [List.length_map] at hl2
  have hp := r.pos
  have hln := r.len
  repeat (first | (with_reducible refine Wp.st ?_; simp only [wS]) | with_reducible refine Wp.drawS (by decide +kernel) ?_ | simp (disch := (first | (simp only [List.length_set, hl]; omega) | omega | rfl)) only [walkA, walkB, bne_self_eq_false, beq_self_eq_true, Option.map_some, Option.map_none, reduceIte, decide_true, decide_false, Int.reduceLT, Int.reduceLE, Int.reduceMul, Int.reduceAdd, Int.reduceSub, h0, faR0, faP0, faP1, lb, lp, hl2])
  simp (disch := (first | (simp only [List.length_set, hl]; omega) | omega | rfl)) only [aRes_one Try.results61, sL]
  exact ⟨trivial, trivial⟩
end
theorem ints_all (k : IntKind) : ∀ xs : List Int, (xs.map (Value.int k)).all Value.oneCell' = true
  | [] => rfl
  | x :: xs => by rw [List.map_cons, List.all_cons, ints_all k xs]; rfl
def OutB (h h' : Heap) (v : Value) (bs : List Int) : Prop := Buf h' 5 v (bs.map (Value.int .u8)) ∧ ∀ j, bufBlk v j → h.next ≤ j
theorem OutB.nil {h h' : Heap} : OutB h h' (.slice none 0 0) [] := ⟨.inl ⟨rfl, rfl⟩, by rintro j ⟨o, m, d, hh⟩; cases hh⟩
section
variable {h h1 h2 h3 : Heap} {k : Nat} {v : Value} {bs : List Int}
theorem OutB.back (o : OutB h1 h2 v bs) {S : Nat → Prop} (s : Same h h1 S) : OutB h h2 v bs := ⟨o.1, fun j x => Nat.le_trans s.1 (o.2 j x)⟩
theorem OutB.set {T : TypeId} {bv : Value} {s : Nat × Int} {e : Ent} {S1 S2 S3 : Nat → Prop} (o : OutB h2 h3 v bs) (s1 : Same h h1 S1) (s2 : Same h1 h2 S2) (_s3 : Same h2 h3 S3) (r : RD h k T bv s) : OutB h (h3.set k e) v bs := by
  have hf : ∀ j, bufBlk v j → h.next ≤ j := fun j x => Nat.le_trans s1.1 (Nat.le_trans s2.1 (o.2 j x))
  refine ⟨o.1.same (Same.set1 h3 k e) (fun j x y => ?_), hf⟩
  have hx : j = k := y
  have := hf j x
  have := Heap.get_lt r
  omega
end
theorem _root_.Go.AM.Buf.blk {h : Heap} {el : TypeId} {v : Value} {vs : List Value} (b : Buf h el v vs) {a : Addr} {n c : Nat} (e : v = .slice (some a) n c) : a.block < h.next := by
  rcases b with ⟨rfl, _⟩ | ⟨rfl, k, cs, e', ro, rfl, hg⟩ | ⟨k, cap, rfl, h1, h2, hg⟩
  · cases e
  · injection e with e; injection e with e; subst e; exact Heap.get_lt hg
  · injection e with e; injection e with e; subst e; exact Heap.get_lt hg
theorem stepV_eq (v b : Nat) (hv : v < 72057594037927936) (hb : b < 256) : stepV v b = ((v * 256 + b : Nat) : Int) := by
  unfold stepV
  have e1 : IntKind.u64.wrap ((v : Int) * 2 ^ (min (8 : Int).toNat IntKind.u64.bits)) = ((v * 256 : Nat) : Int) := by
    rw [show (min (8 : Int).toNat IntKind.u64.bits) = 8 by decide]
    rw [wrap_u64 (by omega) (by omega)]; omega
  have e2 : IntKind.u64.wrap (b : Int) = (b : Int) := wrap_u64 (by omega) (by omega)
  rw [e1, e2, BitVec.toNat_or, BitVec.toNat_ofInt, BitVec.toNat_ofInt]
  have e3 : (((v * 256 : Nat) : Int) % ((2 ^ IntKind.u64.bits : Nat) : Int)).toNat = 2 ^ 8 * v := by
    rw [show ((2 ^ IntKind.u64.bits : Nat) : Int) = 18446744073709551616 by decide]; omega
  have e4 : (((b : Nat) : Int) % ((2 ^ IntKind.u64.bits : Nat) : Int)).toNat = b := by
    rw [show ((2 ^ IntKind.u64.bits : Nat) : Int) = 18446744073709551616 by decide]; omega
  rw [e3, e4, ← Nat.two_pow_add_eq_or_of_lt (by omega), wrap_u64 (by omega) (by omega)]
  omega
theorem beF_nat : ∀ (l : List Int) (v n : Nat), (∀ b ∈ l, 0 ≤ b ∧ b < 256) → v < 256 ^ n → n + l.length ≤ 8 → ∃ w : Nat, beF v l = w ∧ w < 256 ^ (n + l.length)
  | [], v, n, _, hv, _ => ⟨v, rfl, by simpa using hv⟩
  | b :: l, v, n, hb, hv, hl => by
    obtain ⟨b0, rfl⟩ : ∃ b0 : Nat, b = b0 := ⟨b.toNat, by have := hb b (by simp); omega⟩
    have hb0 := hb b0 (by simp)
    simp only [List.length_cons] at hl
    have hp : (256 : Nat) ^ n ≤ 256 ^ 7 := Nat.pow_le_pow_right (by decide) (by omega)
    have e7 : (256 : Nat) ^ 7 = 72057594037927936 := by decide
    have e : stepV v b0 = ((v * 256 + b0 : Nat) : Int) := stepV_eq v b0 (by omega) (by omega)
    obtain ⟨w, h1, h2⟩ := beF_nat l (v * 256 + b0) (n + 1) (fun x hx => hb x (by simp [hx])) (by rw [Nat.pow_succ]; omega) (by omega)
    refine ⟨w, by show beF (stepV v b0) l = w; rw [e]; exact h1, ?_⟩
    rw [List.length_cons, show n + (l.length + 1) = n + 1 + l.length by omega]; exact h2
theorem beF4 (l : List Int) (hl : l.length ≤ 4) (hb : ∀ b ∈ l, 0 ≤ b ∧ b < 256) : 0 ≤ beF 0 l ∧ beF 0 l < 4294967296 := by
  obtain ⟨w, h1, h2⟩ := beF_nat l 0 0 hb (by decide) (by omega)
  have hp : (256 : Nat) ^ (0 + l.length) ≤ 256 ^ 4 := Nat.pow_le_pow_right (by decide) (by omega)
  have e4 : (256 : Nat) ^ 4 = 4294967296 := by decide
  have h1' : beF 0 l = w := h1
  rw [h1']; omega
theorem rFixed_err (bs : List Int) (n : Int) (s : Nat × Int) (he : (rFixed bs n s).2.2 ≠ 0) : (rFixed bs n s).1 = [] := by
  unfold rFixed at he ⊢
  split
  · rfl
  split
  · rfl
  split
  · rfl
  split
  · rename_i h1 h2 h3 h4
    rw [if_neg h1, if_neg h2, if_neg h3, if_pos h4] at he
    exact absurd rfl he
  · rfl
set_option maxHeartbeats 1000000 in
theorem rFixed_am (n : Int) (hn1 : -9223372036854775808 ≤ n) (hn2 : n ≤ 9223372036854775807) (k : Nat) (T : TypeId) (bv : Value) (bs : List Int) (s : Nat × Int) (h : Heap) (r : RdOK h k T bv bs s) :
    Cl Try.prog 97 [.pointer (some ⟨k, 0, none⟩), .int .i64 n] h fun v h' => OutB h h' v (rFixed bs n s).1 ∧ RdOK h' k T bv bs (rFixed bs n s).2 ∧ Same h h' (onlyS k) := by
  refine Cl.enter Try.func97 rfl 95 Try.ntmps97 (by simp) ?_
  intro env hl ha
  have h0 : sl env 0 = .pointer (some ⟨k, 0, none⟩) := ha 0 (by simp)
  have h1 : sl env 1 = .int .i64 n := ha 1 (by simp)
  clear ha
  have hln := r.len
  have hps := r.pos
  by_cases hneg : n < 0
  · have d1 : decide (n < 0) = true := by simpa using hneg
    repeat (first | (with_reducible refine Wp.st ?_; simp only [wS]) | with_reducible refine Wp.drawS (by decide +kernel) ?_ | simp (disch := (first | (simp only [List.length_set, hl]; omega) | (simp only [List.length_set, el]; omega) | omega | rfl)) only [walkA, walkB, bne_self_eq_false, beq_self_eq_true, Option.map_some, Option.map_none, reduceIte, decide_true, decide_false, Int.reduceLT, Int.reduceLE, Int.reduceMul, Int.reduceAdd, Int.reduceSub, h0, h1, d1])
    refine Wp.cond_true (by first | ((simp (disch := (first | (simp only [List.length_set, hl]; omega) | (simp only [List.length_set, el]; omega) | omega | rfl)) only [sL, aEval_tmp]); done) | ((simp (disch := (first | (simp only [List.length_set, hl]; omega) | (simp only [List.length_set, el]; omega) | omega | rfl)) only [sL, aEval_tmp]); rfl)) ?_
    repeat (first | (with_reducible refine Wp.st ?_; simp only [wS]) | with_reducible refine Wp.drawS (by decide +kernel) ?_ | simp (disch := (first | (simp only [List.length_set, hl]; omega) | (simp only [List.length_set, el]; omega) | omega | rfl)) only [walkA, walkB, bne_self_eq_false, beq_self_eq_true, Option.map_some, Option.map_none, reduceIte, decide_true, decide_false, Int.reduceLT, Int.reduceLE, Int.reduceMul, Int.reduceAdd, Int.reduceSub, h0, h1, faR0])
    refine (fail_am 1 k T bv s h r.rd).mono ?_
    rintro v h' ⟨rfl, r', hs⟩
    have le := r'.e
    have hne : ((if s.2 = 0 then (1 : Int) else s.2) != 0) = true := by split <;> simp_all
    repeat (first | (with_reducible refine Wp.st ?_; simp only [wS]) | with_reducible refine Wp.drawS (by decide +kernel) ?_ | simp (disch := (first | (simp only [List.length_set, hl]; omega) | (simp only [List.length_set, el]; omega) | omega | rfl)) only [walkA, walkB, bne_self_eq_false, beq_self_eq_true, Option.map_some, Option.map_none, reduceIte, decide_true, decide_false, Int.reduceLT, Int.reduceLE, Int.reduceMul, Int.reduceAdd, Int.reduceSub, h0, h1, faR0, faP2, le, hne])
    refine Wp.cond_true (by first | ((simp (disch := (first | (simp only [List.length_set, hl]; omega) | (simp only [List.length_set, el]; omega) | omega | rfl)) only [sL, aEval_tmp]); done) | ((simp (disch := (first | (simp only [List.length_set, hl]; omega) | (simp only [List.length_set, el]; omega) | omega | rfl)) only [sL, aEval_tmp]); rfl)) ?_
    repeat (first | (with_reducible refine Wp.st ?_; simp only [wS]) | with_reducible refine Wp.drawS (by decide +kernel) ?_ | simp (disch := (first | (simp only [List.length_set, hl]; omega) | (simp only [List.length_set, el]; omega) | omega | rfl)) only [walkA, walkB, bne_self_eq_false, beq_self_eq_true, Option.map_some, Option.map_none, reduceIte, decide_true, decide_false, Int.reduceLT, Int.reduceLE, Int.reduceMul, Int.reduceAdd, Int.reduceSub, h0, h1])
    simp (disch := (first | (simp only [List.length_set, hl]; omega) | (simp only [List.length_set, el]; omega) | omega | rfl)) only [aRes_one Try.results97, sL]
    have e1 : rFixed bs n s = ([], s.1, if s.2 = 0 then 1 else s.2) := by
      unfold rFixed
      by_cases hz : s.2 = 0
      · rw [if_neg (by simp [hz]), if_pos hneg, if_pos hz]
      · rw [if_pos hz, if_neg hz]
    rw [e1]
    exact ⟨OutB.nil, r.next r' hs r.pos, hs⟩
  obtain ⟨m, rfl⟩ : ∃ m : Nat, n = m := ⟨n.toNat, by omega⟩
  have d1 : decide ((m : Int) < 0) = false := by simp
  have hpd := pad_le m
  repeat (first | (with_reducible refine Wp.st ?_; simp only [wS]) | with_reducible refine Wp.drawS (by decide +kernel) ?_ | simp (disch := (first | (simp only [List.length_set, hl]; omega) | (simp only [List.length_set, el]; omega) | omega | rfl)) only [walkA, walkB, bne_self_eq_false, beq_self_eq_true, Option.map_some, Option.map_none, reduceIte, decide_true, decide_false, Int.reduceLT, Int.reduceLE, Int.reduceMul, Int.reduceAdd, Int.reduceSub, h0, h1, d1])
  refine Wp.cond_false (by first | ((simp (disch := (first | (simp only [List.length_set, hl]; omega) | (simp only [List.length_set, el]; omega) | omega | rfl)) only [sL, aEval_tmp]); done) | ((simp (disch := (first | (simp only [List.length_set, hl]; omega) | (simp only [List.length_set, el]; omega) | omega | rfl)) only [sL, aEval_tmp]); rfl)) ?_
  repeat (first | (with_reducible refine Wp.st ?_; simp only [wS]) | with_reducible refine Wp.drawS (by decide +kernel) ?_ | simp (disch := (first | (simp only [List.length_set, hl]; omega) | (simp only [List.length_set, el]; omega) | omega | rfl)) only [walkA, walkB, bne_self_eq_false, beq_self_eq_true, Option.map_some, Option.map_none, reduceIte, decide_true, decide_false, Int.reduceLT, Int.reduceLE, Int.reduceMul, Int.reduceAdd, Int.reduceSub, h0, h1])
  refine (rLeft_am k T bv bs s h r).mono ?_
  rintro v h' ⟨rfl, rfl⟩
  have na := negand m
  by_cases hcut : bs.length < s.1 + m + pad m
  · have d2 : decide ((bs.length : Int) - (s.1 : Int) - (m : Int) < ((pad m : Nat) : Int)) = true := by simp; omega
    repeat (first | (with_reducible refine Wp.st ?_; simp only [wS]) | with_reducible refine Wp.drawS (by decide +kernel) ?_ | simp (disch := (first | (simp only [List.length_set, hl]; omega) | (simp only [List.length_set, el]; omega) | omega | rfl)) only [walkA, walkB, bne_self_eq_false, beq_self_eq_true, Option.map_some, Option.map_none, reduceIte, decide_true, decide_false, Int.reduceLT, Int.reduceLE, Int.reduceMul, Int.reduceAdd, Int.reduceSub, h0, h1, na, d2])
    refine Wp.cond_true (by first | ((simp (disch := (first | (simp only [List.length_set, hl]; omega) | (simp only [List.length_set, el]; omega) | omega | rfl)) only [sL, aEval_tmp]); done) | ((simp (disch := (first | (simp only [List.length_set, hl]; omega) | (simp only [List.length_set, el]; omega) | omega | rfl)) only [sL, aEval_tmp]); rfl)) ?_
    repeat (first | (with_reducible refine Wp.st ?_; simp only [wS]) | with_reducible refine Wp.drawS (by decide +kernel) ?_ | simp (disch := (first | (simp only [List.length_set, hl]; omega) | (simp only [List.length_set, el]; omega) | omega | rfl)) only [walkA, walkB, bne_self_eq_false, beq_self_eq_true, Option.map_some, Option.map_none, reduceIte, decide_true, decide_false, Int.reduceLT, Int.reduceLE, Int.reduceMul, Int.reduceAdd, Int.reduceSub, h0, h1, faR0])
    refine (fail_am 11 k T bv s h' r.rd).mono ?_
    rintro v h2 ⟨rfl, r', hs⟩
    have le := r'.e
    have hne : ((if s.2 = 0 then (11 : Int) else s.2) != 0) = true := by split <;> simp_all
    repeat (first | (with_reducible refine Wp.st ?_; simp only [wS]) | with_reducible refine Wp.drawS (by decide +kernel) ?_ | simp (disch := (first | (simp only [List.length_set, hl]; omega) | (simp only [List.length_set, el]; omega) | omega | rfl)) only [walkA, walkB, bne_self_eq_false, beq_self_eq_true, Option.map_some, Option.map_none, reduceIte, decide_true, decide_false, Int.reduceLT, Int.reduceLE, Int.reduceMul, Int.reduceAdd, Int.reduceSub, h0, h1, faR0, faP2, le, hne])
    refine Wp.cond_true (by first | ((simp (disch := (first | (simp only [List.length_set, hl]; omega) | (simp only [List.length_set, el]; omega) | omega | rfl)) only [sL, aEval_tmp]); done) | ((simp (disch := (first | (simp only [List.length_set, hl]; omega) | (simp only [List.length_set, el]; omega) | omega | rfl)) only [sL, aEval_tmp]); rfl)) ?_
    repeat (first | (with_reducible refine Wp.st ?_; simp only [wS]) | with_reducible refine Wp.drawS (by decide +kernel) ?_ | simp (disch := (first | (simp only [List.length_set, hl]; omega) | (simp only [List.length_set, el]; omega) | omega | rfl)) only [walkA, walkB, bne_self_eq_false, beq_self_eq_true, Option.map_some, Option.map_none, reduceIte, decide_true, decide_false, Int.reduceLT, Int.reduceLE, Int.reduceMul, Int.reduceAdd, Int.reduceSub, h0, h1])
    simp (disch := (first | (simp only [List.length_set, hl]; omega) | (simp only [List.length_set, el]; omega) | omega | rfl)) only [aRes_one Try.results97, sL]
    have e1 : rFixed bs m s = ([], s.1, if s.2 = 0 then 11 else s.2) := by
      unfold rFixed
      by_cases hz : s.2 = 0
      · rw [if_neg (by simp [hz]), if_neg hneg, if_pos (by simpa using hcut), if_pos hz]
      · rw [if_pos hz, if_neg hz]
    rw [e1]
    exact ⟨OutB.nil, r.next r' hs r.pos, hs⟩
  have d2 : decide ((bs.length : Int) - (s.1 : Int) - (m : Int) < ((pad m : Nat) : Int)) = false := by simp; omega
  have le := r.rd.e
  repeat (first | (with_reducible refine Wp.st ?_; simp only [wS]) | with_reducible refine Wp.drawS (by decide +kernel) ?_ | simp (disch := (first | (simp only [List.length_set, hl]; omega) | (simp only [List.length_set, el]; omega) | omega | rfl)) only [walkA, walkB, bne_self_eq_false, beq_self_eq_true, Option.map_some, Option.map_none, reduceIte, decide_true, decide_false, Int.reduceLT, Int.reduceLE, Int.reduceMul, Int.reduceAdd, Int.reduceSub, h0, h1, na, d2])
  refine Wp.cond_false (by first | ((simp (disch := (first | (simp only [List.length_set, hl]; omega) | (simp only [List.length_set, el]; omega) | omega | rfl)) only [sL, aEval_tmp]); done) | ((simp (disch := (first | (simp only [List.length_set, hl]; omega) | (simp only [List.length_set, el]; omega) | omega | rfl)) only [sL, aEval_tmp]); rfl)) ?_
  by_cases hz : s.2 ≠ 0
  · have hne : (s.2 != 0) = true := by simpa using hz
    repeat (first | (with_reducible refine Wp.st ?_; simp only [wS]) | with_reducible refine Wp.drawS (by decide +kernel) ?_ | simp (disch := (first | (simp only [List.length_set, hl]; omega) | (simp only [List.length_set, el]; omega) | omega | rfl)) only [walkA, walkB, bne_self_eq_false, beq_self_eq_true, Option.map_some, Option.map_none, reduceIte, decide_true, decide_false, Int.reduceLT, Int.reduceLE, Int.reduceMul, Int.reduceAdd, Int.reduceSub, h0, h1, faR0, faP2, le, hne])
    refine Wp.cond_true (by first | ((simp (disch := (first | (simp only [List.length_set, hl]; omega) | (simp only [List.length_set, el]; omega) | omega | rfl)) only [sL, aEval_tmp]); done) | ((simp (disch := (first | (simp only [List.length_set, hl]; omega) | (simp only [List.length_set, el]; omega) | omega | rfl)) only [sL, aEval_tmp]); rfl)) ?_
    repeat (first | (with_reducible refine Wp.st ?_; simp only [wS]) | with_reducible refine Wp.drawS (by decide +kernel) ?_ | simp (disch := (first | (simp only [List.length_set, hl]; omega) | (simp only [List.length_set, el]; omega) | omega | rfl)) only [walkA, walkB, bne_self_eq_false, beq_self_eq_true, Option.map_some, Option.map_none, reduceIte, decide_true, decide_false, Int.reduceLT, Int.reduceLE, Int.reduceMul, Int.reduceAdd, Int.reduceSub, h0, h1])
    simp (disch := (first | (simp only [List.length_set, hl]; omega) | (simp only [List.length_set, el]; omega) | omega | rfl)) only [aRes_one Try.results97, sL]
    have e1 : rFixed bs m s = ([], s) := by unfold rFixed; rw [if_pos hz]
    rw [e1]
    exact ⟨OutB.nil, r, Same.refl _ _⟩
  have hz : s.2 = 0 := by omega
  have hne : (s.2 != 0) = false := by simp [hz]
  have lb := r.rd.b
  have lp := r.rd.p
  have a1 : (s.1 : Int) + (m : Int) = ((s.1 + m : Nat) : Int) := by omega
  have a2 : ((s.1 + m : Nat) : Int) + ((pad m : Nat) : Int) = ((s.1 + m + pad m : Nat) : Int) := by omega
  obtain ⟨v1, hsl, hx1, _⟩ := r.row.slice (P := Try.prog) Try.underlying22 i5 rfl (kl := .i64) (kh := .i64) (lo := s.1 + m) (hi' := s.1 + m + pad m) (by omega) (by simp; omega)
  rw [Nat.add_sub_cancel_left, ← List.map_drop, ← List.map_take] at hx1
  generalize hpv : ((bs.drop (s.1 + m)).take (pad m)) = ps at hx1
  have hplen : ps.length = pad m := by rw [← hpv, List.length_take, List.length_drop]; omega
  have hl2 := len_any hx1.row Try.underlying22
  simp only [List.length_map] at hl2
  repeat (first | (with_reducible refine Wp.st ?_; simp only [wS]) | with_reducible refine Wp.drawS (by decide +kernel) ?_ | simp (disch := (first | (simp only [List.length_set, hl]; omega) | (simp only [List.length_set, el]; omega) | omega | rfl)) only [walkA, walkB, bne_self_eq_false, beq_self_eq_true, Option.map_some, Option.map_none, reduceIte, decide_true, decide_false, Int.reduceLT, Int.reduceLE, Int.reduceMul, Int.reduceAdd, Int.reduceSub, h0, h1, faR0, faP0, faP1, faP2, le, hne, lb, lp, na, a1, a2])
  refine Wp.cond_false (by first | ((simp (disch := (first | (simp only [List.length_set, hl]; omega) | (simp only [List.length_set, el]; omega) | omega | rfl)) only [sL, aEval_tmp]); done) | ((simp (disch := (first | (simp only [List.length_set, hl]; omega) | (simp only [List.length_set, el]; omega) | omega | rfl)) only [sL, aEval_tmp]); rfl)) ?_
  repeat (first | (with_reducible refine Wp.st ?_; simp only [wS]) | with_reducible refine Wp.drawS (by decide +kernel) ?_ | simp (disch := (first | (simp only [List.length_set, hl]; omega) | (simp only [List.length_set, el]; omega) | omega | rfl)) only [walkA, walkB, bne_self_eq_false, beq_self_eq_true, Option.map_some, Option.map_none, reduceIte, decide_true, decide_false, Int.reduceLT, Int.reduceLE, Int.reduceMul, Int.reduceAdd, Int.reduceSub, h0, h1, faR0, faP0, faP1, faP2, le, hne, lb, lp, na, a1, a2, WOps_slice2, hsl, hl2])
  refine Wp.loop (fun i e hh => ∃ j : Nat, j + i = ps.length ∧ e.length = 95 ∧ sl e 0 = .pointer (some ⟨k, 0, none⟩) ∧ sl e 1 = .int .i64 m ∧ sl e 5 = .int .i64 (s.1 + m + pad m : Nat) ∧ sl e 57 = v1 ∧ sl e 58 = .int .i64 ps.length ∧ sl e 59 = .int .i64 j ∧ (ps.take j).all (· == 0) = true ∧ hh = h') ps.length
    ⟨0, by omega, by simp [hl], by (simp (disch := (first | (simp only [List.length_set, hl]; omega) | (simp only [List.length_set, el]; omega) | omega | rfl)) only [sL, h0]), by (simp (disch := (first | (simp only [List.length_set, hl]; omega) | (simp only [List.length_set, el]; omega) | omega | rfl)) only [sL, h1]), by (simp (disch := (first | (simp only [List.length_set, hl]; omega) | (simp only [List.length_set, el]; omega) | omega | rfl)) only [sL]), by (simp (disch := (first | (simp only [List.length_set, hl]; omega) | (simp only [List.length_set, el]; omega) | omega | rfl)) only [sL]), by (simp (disch := (first | (simp only [List.length_set, hl]; omega) | (simp only [List.length_set, el]; omega) | omega | rfl)) only [sL]), by (simp (disch := (first | (simp only [List.length_set, hl]; omega) | (simp only [List.length_set, el]; omega) | omega | rfl)) only [sL]); rfl, rfl, rfl⟩ ?_
  clear h0 h1 hl env
  rintro i e hh ⟨j, hj, el, e0, e1, e5, e57, e58, e59, hall, rfl⟩
  repeat (first | (with_reducible refine Wp.st ?_; simp only [wS]) | with_reducible refine Wp.drawS (by decide +kernel) ?_ | simp (disch := (first | (simp only [List.length_set, hl]; omega) | (simp only [List.length_set, el]; omega) | omega | rfl)) only [walkA, walkB, bne_self_eq_false, beq_self_eq_true, Option.map_some, Option.map_none, reduceIte, decide_true, decide_false, Int.reduceLT, Int.reduceLE, Int.reduceMul, Int.reduceAdd, Int.reduceSub, e0, e1, e5, e57, e58, e59])
  by_cases hlt : j < ps.length
  · refine Wp.cond_true (by (simp (disch := (first | (simp only [List.length_set, hl]; omega) | (simp only [List.length_set, el]; omega) | omega | rfl)) only [sL, aEval_tmp]); simpa using hlt) ?_
    obtain ⟨kk, off, hi1, hi2⟩ := hx1.row.index (P := Try.prog) Try.underlying22 i5 rfl (j := j) (kd := .i64) (by simpa using hlt)
    rw [← aLoad_one (P := Try.prog) Try.underlying5 (by simp) (by simp), List.getElem_map] at hi2
    by_cases hb0 : ps[j] = 0
    · have hb : (ps[j] != 0) = false := by simp [hb0]
      repeat (first | (with_reducible refine Wp.st ?_; simp only [wS]) | with_reducible refine Wp.drawS (by decide +kernel) ?_ | simp (disch := (first | (simp only [List.length_set, hl]; omega) | (simp only [List.length_set, el]; omega) | omega | rfl)) only [walkA, walkB, bne_self_eq_false, beq_self_eq_true, Option.map_some, Option.map_none, reduceIte, decide_true, decide_false, Int.reduceLT, Int.reduceLE, Int.reduceMul, Int.reduceAdd, Int.reduceSub, e0, e1, e5, e57, e58, e59, hi1, hi2, hb])
      refine Wp.cond_false (by first | ((simp (disch := (first | (simp only [List.length_set, hl]; omega) | (simp only [List.length_set, el]; omega) | omega | rfl)) only [sL, aEval_tmp]); done) | ((simp (disch := (first | (simp only [List.length_set, hl]; omega) | (simp only [List.length_set, el]; omega) | omega | rfl)) only [sL, aEval_tmp]); rfl)) ?_
      repeat (first | (with_reducible refine Wp.st ?_; simp only [wS]) | with_reducible refine Wp.drawS (by decide +kernel) ?_ | simp (disch := (first | (simp only [List.length_set, hl]; omega) | (simp only [List.length_set, el]; omega) | omega | rfl)) only [walkA, walkB, bne_self_eq_false, beq_self_eq_true, Option.map_some, Option.map_none, reduceIte, decide_true, decide_false, Int.reduceLT, Int.reduceLE, Int.reduceMul, Int.reduceAdd, Int.reduceSub, e0, e1, e5, e57, e58, e59])
      exact ⟨i - 1, by omega, j + 1, by omega, by simp [el], by (simp (disch := (first | (simp only [List.length_set, hl]; omega) | (simp only [List.length_set, el]; omega) | omega | rfl)) only [sL, e0]), by (simp (disch := (first | (simp only [List.length_set, hl]; omega) | (simp only [List.length_set, el]; omega) | omega | rfl)) only [sL, e1]), by (simp (disch := (first | (simp only [List.length_set, hl]; omega) | (simp only [List.length_set, el]; omega) | omega | rfl)) only [sL, e5]), by (simp (disch := (first | (simp only [List.length_set, hl]; omega) | (simp only [List.length_set, el]; omega) | omega | rfl)) only [sL, e57]), by (simp (disch := (first | (simp only [List.length_set, hl]; omega) | (simp only [List.length_set, el]; omega) | omega | rfl)) only [sL, e58]), by (simp (disch := (first | (simp only [List.length_set, hl]; omega) | (simp only [List.length_set, el]; omega) | omega | rfl)) only [sL, Int.natCast_add]); rfl, by rw [List.take_succ_eq_append_getElem hlt, List.all_append, hall]; simp [hb0], trivial⟩
    · have hb : (ps[j] != 0) = true := by simpa using hb0
      repeat (first | (with_reducible refine Wp.st ?_; simp only [wS]) | with_reducible refine Wp.drawS (by decide +kernel) ?_ | simp (disch := (first | (simp only [List.length_set, hl]; omega) | (simp only [List.length_set, el]; omega) | omega | rfl)) only [walkA, walkB, bne_self_eq_false, beq_self_eq_true, Option.map_some, Option.map_none, reduceIte, decide_true, decide_false, Int.reduceLT, Int.reduceLE, Int.reduceMul, Int.reduceAdd, Int.reduceSub, e0, e1, e5, e57, e58, e59, hi1, hi2, hb])
      refine Wp.cond_true (by first | ((simp (disch := (first | (simp only [List.length_set, hl]; omega) | (simp only [List.length_set, el]; omega) | omega | rfl)) only [sL, aEval_tmp]); done) | ((simp (disch := (first | (simp only [List.length_set, hl]; omega) | (simp only [List.length_set, el]; omega) | omega | rfl)) only [sL, aEval_tmp]); rfl)) ?_
      repeat (first | (with_reducible refine Wp.st ?_; simp only [wS]) | with_reducible refine Wp.drawS (by decide +kernel) ?_ | simp (disch := (first | (simp only [List.length_set, hl]; omega) | (simp only [List.length_set, el]; omega) | omega | rfl)) only [walkA, walkB, bne_self_eq_false, beq_self_eq_true, Option.map_some, Option.map_none, reduceIte, decide_true, decide_false, Int.reduceLT, Int.reduceLE, Int.reduceMul, Int.reduceAdd, Int.reduceSub, e0, e1, faR0])
      refine (fail_am 15 k T bv s hh r.rd).mono ?_
      rintro v h2 ⟨rfl, r', hs⟩
      rw [if_pos hz] at r'
      repeat (first | (with_reducible refine Wp.st ?_; simp only [wS]) | with_reducible refine Wp.drawS (by decide +kernel) ?_ | simp (disch := (first | (simp only [List.length_set, hl]; omega) | (simp only [List.length_set, el]; omega) | omega | rfl)) only [walkA, walkB, bne_self_eq_false, beq_self_eq_true, Option.map_some, Option.map_none, reduceIte, decide_true, decide_false, Int.reduceLT, Int.reduceLE, Int.reduceMul, Int.reduceAdd, Int.reduceSub, e0])
      simp (disch := (first | (simp only [List.length_set, hl]; omega) | (simp only [List.length_set, el]; omega) | omega | rfl)) only [aRes_one Try.results97, sL]
      have e1 : rFixed bs m s = ([], s.1, 15) := by
        unfold rFixed
        have hna : ¬ (ps.all (· == 0) = true) := fun hh => hb0 (by simpa using List.all_eq_true.1 hh _ (List.getElem_mem hlt))
        rw [if_neg (by simp [hz]), if_neg hneg, if_neg (by simpa using hcut), Int.toNat_natCast, hpv, if_neg hna]
      rw [e1]
      exact ⟨OutB.nil, r.next r' hs r.pos, hs⟩
  · refine Wp.cond_false (by (simp (disch := (first | (simp only [List.length_set, hl]; omega) | (simp only [List.length_set, el]; omega) | omega | rfl)) only [sL, aEval_tmp]); simpa using hlt) ?_
    have hjl : j = ps.length := by omega
    subst hjl
    rw [List.take_length] at hall
    have lb := r.rd.b
    have lp := r.rd.p
    obtain ⟨v2, hsl2, hx2, _⟩ := r.row.slice (P := Try.prog) Try.underlying22 i5 rfl (kl := .i64) (kh := .i64) (lo := s.1) (hi' := s.1 + m) (by omega) (by simp; omega)
    rw [Nat.add_sub_cancel_left, ← List.map_drop, ← List.map_take] at hx2
    clear hsl
    repeat (first | (with_reducible refine Wp.st ?_; simp only [wS]) | with_reducible refine Wp.drawS (by decide +kernel) ?_ | simp (disch := (first | (simp only [List.length_set, hl]; omega) | (simp only [List.length_set, el]; omega) | omega | rfl)) only [walkA, walkB, bne_self_eq_false, beq_self_eq_true, Option.map_some, Option.map_none, reduceIte, decide_true, decide_false, Int.reduceLT, Int.reduceLE, Int.reduceMul, Int.reduceAdd, Int.reduceSub, e0, e1, e5, faR0, faP0, faP1, lb, lp, a1, WOps_slice2, hsl2])
    refine (clone_am v2 _ hh hx2.row (ints_all _ _) (by simp; omega)).mono ?_
    rintro out h2 ⟨hb2, hs2, hf2⟩
    have r2 := r.same hs2 (fun x => x) (fun _ _ _ _ _ x => x)
    have wp := r2.rd.wp ((s.1 + m + pad m : Nat) : Int)
    have r3 := r2.rd.setp (s.1 + m + pad m)
    repeat (first | (with_reducible refine Wp.st ?_; simp only [wS]) | with_reducible refine Wp.drawS (by decide +kernel) ?_ | simp (disch := (first | (simp only [List.length_set, hl]; omega) | (simp only [List.length_set, el]; omega) | omega | rfl)) only [walkA, walkB, bne_self_eq_false, beq_self_eq_true, Option.map_some, Option.map_none, reduceIte, decide_true, decide_false, Int.reduceLT, Int.reduceLE, Int.reduceMul, Int.reduceAdd, Int.reduceSub, e0, e1, e5, faR0, faP1, wp])
    simp (disch := (first | (simp only [List.length_set, hl]; omega) | (simp only [List.length_set, el]; omega) | omega | rfl)) only [aRes_one Try.results97, sL]
    have e1 : rFixed bs m s = ((bs.drop s.1).take m, s.1 + m + pad m, 0) := by
      unfold rFixed
      rw [if_neg (by simp [hz]), if_neg hneg, if_neg (by simpa using hcut), Int.toNat_natCast, hpv, if_pos hall]
    have s3 := (Same.none (S := onlyS k) hs2).then (Same.set1 h2 k (.cells [bv, .int .i64 (s.1 + m + pad m : Nat), .int .i64 s.2] T false))
    rw [e1, ← hz]
    refine ⟨⟨?_, hf2⟩, r.next r3 s3 (by show s.1 + m + pad m ≤ bs.length; omega), s3⟩
    refine hb2.same (Same.set1 _ _ _) (fun j hj x => ?_)
    have hx : j = k := x
    subst hx
    have := hf2 j hj
    have := Heap.get_lt r.rd
    omega
theorem rNum_le (bs : List Int) (hb : ∀ b ∈ bs, 0 ≤ b ∧ b < 256) (s : Nat × Int) : 0 ≤ (rNum bs 4 s).1 ∧ (rNum bs 4 s).1 < 4294967296 := by
  unfold rNum
  split
  · simp
  split
  · exact beF4 _ (by rw [List.length_take]; omega) (fun b hm => hb b (List.mem_of_mem_drop (List.mem_of_mem_take hm)))
  · simp
theorem rBytes_am (most : Int) (k : Nat) (T : TypeId) (bv : Value) (bs : List Int) (s : Nat × Int) (h : Heap) (r : RdOK h k T bv bs s) :
    Cl Try.prog 81 [.pointer (some ⟨k, 0, none⟩), .int .i64 most] h fun v h' => OutB h h' v (rBytes bs most s).1 ∧ RdOK h' k T bv bs (rBytes bs most s).2 ∧ Same h h' (onlyS k) := by
  refine Cl.enter Try.func81 rfl 46 Try.ntmps81 (by simp) ?_
  intro env hl ha
  have h0 : sl env 0 = .pointer (some ⟨k, 0, none⟩) := ha 0 (by simp)
  have h1 : sl env 1 = .int .i64 most := ha 1 (by simp)
  clear ha
  have lp := r.rd.p
  obtain ⟨hr1, hr2⟩ := rNum_le bs r.byte s
  have w1 : IntKind.u32.wrap (rNum bs 4 s).1 = (rNum bs 4 s).1 := wrap_u32 hr1 hr2
  have w2 : IntKind.i64.wrap (rNum bs 4 s).1 = (rNum bs 4 s).1 := wrap_i64 (by omega) (by omega)
  have hcv := fun x hx => conv_int (h := hx) (k' := .u32) (n := x) Try.underlying23 Try.underlying3
  repeat (first | (with_reducible refine Wp.st ?_; simp only [wS]) | with_reducible refine Wp.drawS (by decide +kernel) ?_ | simp (disch := (first | (simp only [List.length_set, hl]; omega) | omega | rfl)) only [walkA, walkB, bne_self_eq_false, beq_self_eq_true, Option.map_some, Option.map_none, reduceIte, decide_true, decide_false, Int.reduceLT, Int.reduceLE, Int.reduceMul, Int.reduceAdd, Int.reduceSub, h0, h1, faR0, faP1, lp])
  refine (rU32_am k T bv bs s h r).mono ?_
  rintro v h1' ⟨rfl, r1, s1⟩
  have le := r1.rd.e
  have fin : ∀ (h2 : Heap) (e : Int) (out : Value) (ds : List Int) (env : List Value) (p : Nat), e ≠ 0 → True := fun _ _ _ _ _ _ _ => trivial
  -- the length is too much, or an error came: nothing is read
  by_cases hz : (rNum bs 4 s).2.2 = 0
  · have hzb : ((rNum bs 4 s).2.2 == 0) = true := by simpa using hz
    by_cases hgt : (rNum bs 4 s).1 > most
    · have d1 : decide ((rNum bs 4 s).1 > most) = true := by simpa using hgt
      repeat (first | (with_reducible refine Wp.st ?_; simp only [wS]) | with_reducible refine Wp.drawS (by decide +kernel) ?_ | simp (disch := (first | (simp only [List.length_set, hl]; omega) | omega | rfl)) only [walkA, walkB, bne_self_eq_false, beq_self_eq_true, Option.map_some, Option.map_none, reduceIte, decide_true, decide_false, Int.reduceLT, Int.reduceLE, Int.reduceMul, Int.reduceAdd, Int.reduceSub, h0, h1, hcv, w1, w2, faR0, faP2, le, hzb, d1])
      refine Wp.cond_true (by first | ((simp (disch := (first | (simp only [List.length_set, hl]; omega) | omega | rfl)) only [sL, aEval_tmp]); done) | ((simp (disch := (first | (simp only [List.length_set, hl]; omega) | omega | rfl)) only [sL, aEval_tmp]); rfl)) ?_
      repeat (first | (with_reducible refine Wp.st ?_; simp only [wS]) | with_reducible refine Wp.drawS (by decide +kernel) ?_ | simp (disch := (first | (simp only [List.length_set, hl]; omega) | omega | rfl)) only [walkA, walkB, bne_self_eq_false, beq_self_eq_true, Option.map_some, Option.map_none, reduceIte, decide_true, decide_false, Int.reduceLT, Int.reduceLE, Int.reduceMul, Int.reduceAdd, Int.reduceSub, h0, h1, faR0])
      refine (fail_am 5 k T bv _ h1' r1.rd).mono ?_
      rintro v h2 ⟨rfl, r2, s2⟩
      rw [if_pos hz] at r2
      have r2' := r1.next r2 s2 r1.pos
      repeat (first | (with_reducible refine Wp.st ?_; simp only [wS]) | with_reducible refine Wp.drawS (by decide +kernel) ?_ | simp (disch := (first | (simp only [List.length_set, hl]; omega) | omega | rfl)) only [walkA, walkB, bne_self_eq_false, beq_self_eq_true, Option.map_some, Option.map_none, reduceIte, decide_true, decide_false, Int.reduceLT, Int.reduceLE, Int.reduceMul, Int.reduceAdd, Int.reduceSub, h0, h1, faR0])
      refine (rFixed_am (rNum bs 4 s).1 (by omega) (by omega) k T bv bs _ h2 r2').mono ?_
      rintro out h3 ⟨ob, r3, s3⟩
      have ef : rFixed bs (rNum bs 4 s).1 ((rNum bs 4 s).2.1, 5) = ([], (rNum bs 4 s).2.1, 5) := by unfold rFixed; rw [if_pos (by simp)]
      rw [ef] at ob r3
      have le3 := r3.rd.e
      have wp := r3.rd.wp s.1
      have r4 := r3.rd.setp s.1
      repeat (first | (with_reducible refine Wp.st ?_; simp only [wS]) | with_reducible refine Wp.drawS (by decide +kernel) ?_ | simp (disch := (first | (simp only [List.length_set, hl]; omega) | omega | rfl)) only [walkA, walkB, bne_self_eq_false, beq_self_eq_true, Option.map_some, Option.map_none, reduceIte, decide_true, decide_false, Int.reduceLT, Int.reduceLE, Int.reduceMul, Int.reduceAdd, Int.reduceSub, h0, h1, faR0, faP2, le3])
      refine Wp.cond_true (by first | ((simp (disch := (first | (simp only [List.length_set, hl]; omega) | omega | rfl)) only [sL, aEval_tmp]); done) | ((simp (disch := (first | (simp only [List.length_set, hl]; omega) | omega | rfl)) only [sL, aEval_tmp]); rfl)) ?_
      repeat (first | (with_reducible refine Wp.st ?_; simp only [wS]) | with_reducible refine Wp.drawS (by decide +kernel) ?_ | simp (disch := (first | (simp only [List.length_set, hl]; omega) | omega | rfl)) only [walkA, walkB, bne_self_eq_false, beq_self_eq_true, Option.map_some, Option.map_none, reduceIte, decide_true, decide_false, Int.reduceLT, Int.reduceLE, Int.reduceMul, Int.reduceAdd, Int.reduceSub, h0, h1, faR0, faP1, wp])
      simp (disch := (first | (simp only [List.length_set, hl]; omega) | omega | rfl)) only [aRes_one Try.results81, sL]
      have eb : rBytes bs most s = ([], s.1, 5) := by unfold rBytes; rw [if_neg (by simp [hz]), if_pos hgt]
      have s4 := ((s1.then s2).then s3).then (Same.set1 h3 k (.cells [bv, .int .i64 s.1, .int .i64 5] T false))
      rw [eb]
      exact ⟨ob.set s1 s2 s3 r.rd, r.next r4 s4 r.pos, s4⟩
    · have d1 : decide ((rNum bs 4 s).1 > most) = false := by simpa using hgt
      repeat (first | (with_reducible refine Wp.st ?_; simp only [wS]) | with_reducible refine Wp.drawS (by decide +kernel) ?_ | simp (disch := (first | (simp only [List.length_set, hl]; omega) | omega | rfl)) only [walkA, walkB, bne_self_eq_false, beq_self_eq_true, Option.map_some, Option.map_none, reduceIte, decide_true, decide_false, Int.reduceLT, Int.reduceLE, Int.reduceMul, Int.reduceAdd, Int.reduceSub, h0, h1, hcv, w1, w2, faR0, faP2, le, hzb, d1])
      refine Wp.cond_false (by first | ((simp (disch := (first | (simp only [List.length_set, hl]; omega) | omega | rfl)) only [sL, aEval_tmp]); done) | ((simp (disch := (first | (simp only [List.length_set, hl]; omega) | omega | rfl)) only [sL, aEval_tmp]); rfl)) ?_
      repeat (first | (with_reducible refine Wp.st ?_; simp only [wS]) | with_reducible refine Wp.drawS (by decide +kernel) ?_ | simp (disch := (first | (simp only [List.length_set, hl]; omega) | omega | rfl)) only [walkA, walkB, bne_self_eq_false, beq_self_eq_true, Option.map_some, Option.map_none, reduceIte, decide_true, decide_false, Int.reduceLT, Int.reduceLE, Int.reduceMul, Int.reduceAdd, Int.reduceSub, h0, h1])
      refine (rFixed_am (rNum bs 4 s).1 (by omega) (by omega) k T bv bs _ h1' r1).mono ?_
      rintro out h3 ⟨ob, r3, s3⟩
      have le3 := r3.rd.e
      by_cases hz3 : (rFixed bs (rNum bs 4 s).1 (rNum bs 4 s).2).2.2 = 0
      · have hzb3 : ((rFixed bs (rNum bs 4 s).1 (rNum bs 4 s).2).2.2 != 0) = false := by simp [hz3]
        repeat (first | (with_reducible refine Wp.st ?_; simp only [wS]) | with_reducible refine Wp.drawS (by decide +kernel) ?_ | simp (disch := (first | (simp only [List.length_set, hl]; omega) | omega | rfl)) only [walkA, walkB, bne_self_eq_false, beq_self_eq_true, Option.map_some, Option.map_none, reduceIte, decide_true, decide_false, Int.reduceLT, Int.reduceLE, Int.reduceMul, Int.reduceAdd, Int.reduceSub, h0, h1, faR0, faP2, le3, hzb3])
        refine Wp.cond_false (by first | ((simp (disch := (first | (simp only [List.length_set, hl]; omega) | omega | rfl)) only [sL, aEval_tmp]); done) | ((simp (disch := (first | (simp only [List.length_set, hl]; omega) | omega | rfl)) only [sL, aEval_tmp]); rfl)) ?_
        repeat (first | (with_reducible refine Wp.st ?_; simp only [wS]) | with_reducible refine Wp.drawS (by decide +kernel) ?_ | simp (disch := (first | (simp only [List.length_set, hl]; omega) | omega | rfl)) only [walkA, walkB, bne_self_eq_false, beq_self_eq_true, Option.map_some, Option.map_none, reduceIte, decide_true, decide_false, Int.reduceLT, Int.reduceLE, Int.reduceMul, Int.reduceAdd, Int.reduceSub, h0, h1])
        simp (disch := (first | (simp only [List.length_set, hl]; omega) | omega | rfl)) only [aRes_one Try.results81, sL]
        have eb : rBytes bs most s = rFixed bs (rNum bs 4 s).1 (rNum bs 4 s).2 := by unfold rBytes; rw [if_neg (by simp [hz]), if_neg hgt, if_neg (by simp [hz3])]
        rw [eb]
        exact ⟨ob.back s1, r3, s1.then s3⟩
      · have hzb3 : ((rFixed bs (rNum bs 4 s).1 (rNum bs 4 s).2).2.2 != 0) = true := by simpa using hz3
        have wp := r3.rd.wp s.1
        have r4 := r3.rd.setp s.1
        repeat (first | (with_reducible refine Wp.st ?_; simp only [wS]) | with_reducible refine Wp.drawS (by decide +kernel) ?_ | simp (disch := (first | (simp only [List.length_set, hl]; omega) | omega | rfl)) only [walkA, walkB, bne_self_eq_false, beq_self_eq_true, Option.map_some, Option.map_none, reduceIte, decide_true, decide_false, Int.reduceLT, Int.reduceLE, Int.reduceMul, Int.reduceAdd, Int.reduceSub, h0, h1, faR0, faP2, le3, hzb3])
        refine Wp.cond_true (by first | ((simp (disch := (first | (simp only [List.length_set, hl]; omega) | omega | rfl)) only [sL, aEval_tmp]); done) | ((simp (disch := (first | (simp only [List.length_set, hl]; omega) | omega | rfl)) only [sL, aEval_tmp]); rfl)) ?_
        repeat (first | (with_reducible refine Wp.st ?_; simp only [wS]) | with_reducible refine Wp.drawS (by decide +kernel) ?_ | simp (disch := (first | (simp only [List.length_set, hl]; omega) | omega | rfl)) only [walkA, walkB, bne_self_eq_false, beq_self_eq_true, Option.map_some, Option.map_none, reduceIte, decide_true, decide_false, Int.reduceLT, Int.reduceLE, Int.reduceMul, Int.reduceAdd, Int.reduceSub, h0, h1, faR0, faP1, wp])
        simp (disch := (first | (simp only [List.length_set, hl]; omega) | omega | rfl)) only [aRes_one Try.results81, sL]
        have eb : rBytes bs most s = ([], s.1, (rFixed bs (rNum bs 4 s).1 (rNum bs 4 s).2).2.2) := by unfold rBytes; rw [if_neg (by simp [hz]), if_neg hgt, if_pos hz3]
        have en : (rFixed bs (rNum bs 4 s).1 (rNum bs 4 s).2).1 = [] := rFixed_err _ _ _ hz3
        have s4 := (s1.then s3).then (Same.set1 h3 k (.cells [bv, .int .i64 s.1, .int .i64 (rFixed bs (rNum bs 4 s).1 (rNum bs 4 s).2).2.2] T false))
        rw [eb]
        rw [en] at ob
        exact ⟨ob.set s1 (Same.refl _ (onlyS k)) s3 r.rd, r.next r4 s4 r.pos, s4⟩
  · have hzb : ((rNum bs 4 s).2.2 == 0) = false := by simpa using hz
    repeat (first | (with_reducible refine Wp.st ?_; simp only [wS]) | with_reducible refine Wp.drawS (by decide +kernel) ?_ | simp (disch := (first | (simp only [List.length_set, hl]; omega) | omega | rfl)) only [walkA, walkB, bne_self_eq_false, beq_self_eq_true, Option.map_some, Option.map_none, reduceIte, decide_true, decide_false, Int.reduceLT, Int.reduceLE, Int.reduceMul, Int.reduceAdd, Int.reduceSub, h0, h1, hcv, w1, w2, faR0, faP2, le, hzb])
    refine Wp.cond_false (by first | ((simp (disch := (first | (simp only [List.length_set, hl]; omega) | omega | rfl)) only [sL, aEval_tmp]); done) | ((simp (disch := (first | (simp only [List.length_set, hl]; omega) | omega | rfl)) only [sL, aEval_tmp]); rfl)) ?_
    repeat (first | (with_reducible refine Wp.st ?_; simp only [wS]) | with_reducible refine Wp.drawS (by decide +kernel) ?_ | simp (disch := (first | (simp only [List.length_set, hl]; omega) | omega | rfl)) only [walkA, walkB, bne_self_eq_false, beq_self_eq_true, Option.map_some, Option.map_none, reduceIte, decide_true, decide_false, Int.reduceLT, Int.reduceLE, Int.reduceMul, Int.reduceAdd, Int.reduceSub, h0, h1])
    refine (rFixed_am (rNum bs 4 s).1 (by omega) (by omega) k T bv bs _ h1' r1).mono ?_
    rintro out h3 ⟨ob, r3, s3⟩
    have ef : rFixed bs (rNum bs 4 s).1 (rNum bs 4 s).2 = ([], (rNum bs 4 s).2) := by unfold rFixed; rw [if_pos hz]
    rw [ef] at ob r3
    have le3 := r3.rd.e
    have hzb3 : ((rNum bs 4 s).2.2 != 0) = true := by simpa using hz
    have wp := r3.rd.wp s.1
    have r4 := r3.rd.setp s.1
    repeat (first | (with_reducible refine Wp.st ?_; simp only [wS]) | with_reducible refine Wp.drawS (by decide +kernel) ?_ | simp (disch := (first | (simp only [List.length_set, hl]; omega) | omega | rfl)) only [walkA, walkB, bne_self_eq_false, beq_self_eq_true, Option.map_some, Option.map_none, reduceIte, decide_true, decide_false, Int.reduceLT, Int.reduceLE, Int.reduceMul, Int.reduceAdd, Int.reduceSub, h0, h1, faR0, faP2, le3, hzb3])
    refine Wp.cond_true (by first | ((simp (disch := (first | (simp only [List.length_set, hl]; omega) | omega | rfl)) only [sL, aEval_tmp]); done) | ((simp (disch := (first | (simp only [List.length_set, hl]; omega) | omega | rfl)) only [sL, aEval_tmp]); rfl)) ?_
    repeat (first | (with_reducible refine Wp.st ?_; simp only [wS]) | with_reducible refine Wp.drawS (by decide +kernel) ?_ | simp (disch := (first | (simp only [List.length_set, hl]; omega) | omega | rfl)) only [walkA, walkB, bne_self_eq_false, beq_self_eq_true, Option.map_some, Option.map_none, reduceIte, decide_true, decide_false, Int.reduceLT, Int.reduceLE, Int.reduceMul, Int.reduceAdd, Int.reduceSub, h0, h1, faR0, faP1, wp])
    simp (disch := (first | (simp only [List.length_set, hl]; omega) | omega | rfl)) only [aRes_one Try.results81, sL]
    have eb : rBytes bs most s = ([], s.1, (rNum bs 4 s).2.2) := by unfold rBytes; rw [if_pos hz]
    have s4 := (s1.then s3).then (Same.set1 h3 k (.cells [bv, .int .i64 s.1, .int .i64 (rNum bs 4 s).2.2] T false))
    rw [eb]
    exact ⟨ob.set s1 (Same.refl _ (onlyS k)) s3 r.rd, r.next r4 s4 r.pos, s4⟩
theorem newReader_am (bv : Value) (bs : List Int) (h : Heap) (hr : Row h bv (bs.map (Value.int .u8))) (hlen : bs.length ≤ 1000000000) (hby : ∀ b ∈ bs, 0 ≤ b ∧ b < 256) :
    Cl Try.prog 21 [bv] h fun v h' => ∃ k bv', v = .pointer (some ⟨k, 0, none⟩) ∧ h.next ≤ k ∧ RdOK h' k 113 bv' bs (0, 0) ∧ Buf h' 5 bv' (bs.map (Value.int .u8)) ∧ (∀ j, bufBlk bv' j → h.next ≤ j) ∧ Same h h' noS := by
  refine Cl.enter Try.func21 rfl 8 Try.ntmps21 (by simp) ?_
  intro env hl ha
  have h0 : sl env 0 = bv := ha 0 (by simp)
  clear ha
  repeat (first | (with_reducible refine Wp.st ?_; simp only [wS]) | with_reducible refine Wp.drawS (by decide +kernel) ?_ | simp (disch := (first | (simp only [List.length_set, hl]; omega) | omega | rfl)) only [walkA, walkB, bne_self_eq_false, beq_self_eq_true, Option.map_some, Option.map_none, reduceIte, decide_true, decide_false, Int.reduceLT, Int.reduceLE, Int.reduceMul, Int.reduceAdd, Int.reduceSub, h0])
  refine (clone_am bv _ h hr (ints_all _ _) (by simpa using hlen)).mono ?_
  rintro out h2 ⟨hb2, hs2, hf2⟩
  obtain ⟨oa, on, oc, rfl⟩ := buf_slice hb2
  have hb1 : aBuild Try.prog 111 [(0, .slice oa on oc)] = some (.agg #[.slice oa on oc, .int .i64 0, .int .i64 0]) := by kernel_rfl
  have hb3 : aBuild Try.prog 113 [(0, .agg #[.slice oa on oc, .int .i64 0, .int .i64 0])] = some (.agg #[.slice oa on oc, .int .i64 0, .int .i64 0]) := by kernel_rfl
  have hb4 : ∀ hh, aBox hh 113 (.agg #[.slice oa on oc, .int .i64 0, .int .i64 0]) = some (.pointer (some ⟨hh.next, 0, none⟩), hh.push (.cells [.slice oa on oc, .int .i64 0, .int .i64 0] 113 false)) := fun hh => by kernel_rfl
  repeat (first | (with_reducible refine Wp.st ?_; simp only [wS]) | with_reducible refine Wp.drawS (by decide +kernel) ?_ | simp (disch := (first | (simp only [List.length_set, hl]; omega) | omega | rfl)) only [walkA, walkB, bne_self_eq_false, beq_self_eq_true, Option.map_some, Option.map_none, reduceIte, decide_true, decide_false, Int.reduceLT, Int.reduceLE, Int.reduceMul, Int.reduceAdd, Int.reduceSub, h0, hb1, hb3, hb4])
  simp (disch := (first | (simp only [List.length_set, hl]; omega) | omega | rfl)) only [aRes_one Try.results21, sL]
  have hsp : Same h2 (h2.push (.cells [.slice oa on oc, .int .i64 0, .int .i64 0] 113 false)) noS := Same.push _ _ _
  have hb5 := hb2.same hsp (fun _ _ x => x)
  refine ⟨h2.next, .slice oa on oc, rfl, hs2.1, ⟨Heap.get_push_new, hb5.rowX, ?_, hlen, Nat.zero_le _, hby⟩, hb5, hf2, hs2.then hsp⟩
  intro a n c e hn
  have := hb2.blk e
  omega
end Go.Proofs.Ytanknjpcgceccaa

namespace Go.Proofs.Ytanknjpcgceccaa
open Go Go.AM
set_option linter.unusedSimpArgs false
set_option maxRecDepth 100000
abbrev TR : TypeId := 75
section
variable {k off : Nat}
end
section
variable {h : Heap} {k : Nat} {T : TypeId} {bv : Value} {s : Nat × Int}
theorem RD.x (r : RD h k T bv s) : aLoad Try.prog h 3 (.pointer (some ⟨k, 0 + 2, none⟩)) = some (.int .i64 s.2) := by rw [aLoad_at Try.underlying3 (by simp) (by simp) r]; rfl
end
section
variable (k : Nat) (T : TypeId) (bv : Value) (bs : List Int) (s : Nat × Int) (h : Heap)
end
end Go.Proofs.Ytanknjpcgceccaa

namespace Go.Proofs.Ytanknjpcgceccaa
open Go Go.AM
set_option linter.unusedSimpArgs false
set_option maxRecDepth 100000
def beI (v : Int) : Nat → List Int
  | 0 => []
  | k + 1 => IntKind.u8.wrap (v.fdiv (2 ^ (min (8 * (k : Int)).toNat IntKind.u64.bits))) :: beI v k
theorem beTo_beI (v : Int) : ∀ k, beTo v k = (beI v k).map (Value.int .u8)
  | 0 => rfl
  | k + 1 => by show beB v k :: beTo v k = _; rw [beTo_beI v k]; rfl
theorem beI_length (v : Int) : ∀ k, (beI v k).length = k
  | 0 => rfl
  | k + 1 => by simp [beI, beI_length v k]
theorem u8_range (x : Int) : 0 ≤ IntKind.u8.wrap x ∧ IntKind.u8.wrap x < 256 := by
  simp only [IntKind.wrap, IntKind.bits, IntKind.signed]
  simp
  omega
theorem beI_byte (v : Int) : ∀ k, ∀ b ∈ beI v k, 0 ≤ b ∧ b < 256
  | 0, b, h => by simp [beI] at h
  | k + 1, b, h => by
    rcases List.mem_cons.1 h with rfl | h
    · exact u8_range _
    · exact beI_byte v k b h
theorem digit (v k : Nat) (hk : k < 8) : IntKind.u8.wrap ((v : Int).fdiv (2 ^ (min (8 * (k : Int)).toNat IntKind.u64.bits))) = ((v / 256 ^ k % 256 : Nat) : Int) := by
  have e1 : (min (8 * (k : Int)).toNat IntKind.u64.bits) = 8 * k := by
    have : IntKind.u64.bits = 64 := rfl
    omega
  have e2 : (2 : Int) ^ (8 * k) = ((256 ^ k : Nat) : Int) := by
    rw [Int.pow_mul]; simp
  rw [e1, e2, Int.fdiv_eq_ediv_of_nonneg _ (Int.natCast_nonneg _), ← Int.natCast_ediv]
  simp only [IntKind.wrap, IntKind.bits, IntKind.signed]
  simp
theorem beF_beI (v : Nat) : ∀ (k a : Nat), a < 256 ^ (8 - k) → k ≤ 8 → beF a (beI v k) = ((a * 256 ^ k + v % 256 ^ k : Nat) : Int)
  | 0, a, _, _ => by simp [beI, beF, Nat.mod_one]
  | k + 1, a, ha, hk => by
    show beF (stepV a _) (beI v k) = _
    rw [digit v k (by omega)]
    have hd : v / 256 ^ k % 256 < 256 := Nat.mod_lt _ (by decide)
    generalize hdd : v / 256 ^ k % 256 = d at hd
    have hp : 256 ^ (8 - (k + 1)) ≤ 256 ^ 7 := Nat.pow_le_pow_right (by decide) (by omega)
    have e7 : (256 : Nat) ^ 7 = 72057594037927936 := by decide
    rw [stepV_eq a d (by omega) hd, beF_beI v k (a * 256 + d) (by
      have : 256 ^ (8 - k) = 256 ^ (8 - (k + 1)) * 256 := by rw [← Nat.pow_succ]; congr 1; omega
      omega) (by omega)]
    have := Nat.mod_pow_succ (x := v) (b := 256) (k := k)
    rw [this, hdd, Nat.add_mul, Nat.pow_succ, Nat.mul_assoc, Nat.mul_comm 256 (256 ^ k), Nat.mul_comm d]
    congr 1; omega
theorem beF_back (v n : Nat) (hn : n = 4 ∨ n = 8) (hv : v < 256 ^ n) : beF 0 (beI v n) = v := by
  have := beF_beI v n 0 (Nat.pow_pos (by decide)) (by omega)
  simp only [Nat.zero_mul, Nat.zero_add, Nat.mod_eq_of_lt hv] at this
  exact this
def padI (n : Nat) : List Int := List.replicate (pad n) 0
theorem padB_padI (n : Nat) : padB n = (padI n).map (Value.int .u8) := by simp [padB, padI]
theorem padI_length (n : Nat) : (padI n).length = pad n := by simp [padI]
section
variable {p q r s : List Int}
theorem rNum_at (v n : Nat) (hn : n = 4 ∨ n = 8) (hv : v < 256 ^ n) : rNum (p ++ (beI v n ++ q)) n (p.length, 0) = ((v : Int), p.length + n, 0) := by
  unfold rNum
  rw [if_neg (by simp), if_pos (by simp only [List.length_append, beI_length]; omega)]
  have : ((p ++ (beI v n ++ q)).drop p.length).take n = beI v n := by
    rw [List.drop_left]
    have := List.take_left (l₁ := beI v n) (l₂ := q)
    rwa [beI_length] at this
  rw [this, beF_back v n hn hv]
theorem rFixed_at (hr : r.length = pad q.length) : rFixed (p ++ (q ++ (r ++ s))) q.length (p.length, 0) = (if r.all (· == 0) then (q, p.length + q.length + r.length, 0) else ([], p.length, 15)) := by
  unfold rFixed
  have e1 : ((p ++ (q ++ (r ++ s))).drop (p.length + q.length)).take (pad q.length) = r := by
    rw [← List.append_assoc, ← List.length_append, List.drop_left, ← hr, List.take_left]
  have e2 : ((p ++ (q ++ (r ++ s))).drop p.length).take q.length = q := by rw [List.drop_left, List.take_left]
  rw [if_neg (by simp), if_neg (by omega), if_neg (by simp only [List.length_append, Int.toNat_natCast]; omega)]
  simp only [Int.toNat_natCast]
  rw [e1, e2, hr]
theorem rBytes_at (hq : q.length < 4294967296) (hr : r.length = pad q.length) (most : Int) : rBytes (p ++ (beI q.length 4 ++ (q ++ (r ++ s)))) most (p.length, 0) =
    if (q.length : Int) > most then ([], p.length, 5) else if r.all (· == 0) then (q, p.length + 4 + q.length + r.length, 0) else ([], p.length, 15) := by
  have e1 := rNum_at (p := p) (q := q ++ (r ++ s)) q.length 4 (.inl rfl) (by have : (256 : Nat) ^ 4 = 4294967296 := by decide
                                                                             omega)
  unfold rBytes
  rw [e1, if_neg (by simp)]
  split
  · rfl
  · have e2 := rFixed_at (p := p ++ beI q.length 4) (q := q) (s := s) hr
    rw [List.append_assoc, List.length_append, beI_length] at e2
    simp only
    rw [e2]
    split
    · rename_i h; simp [h]
    · rename_i h; simp [h]
end
theorem pad_all (n : Nat) : (padI n).all (· == 0) = true := by simp [padI]
theorem tmod_abs (a : Int) (n : Nat) (hn : 0 < n) : ∃ k : Nat, k < n ∧ (a.tmod n = k ∨ (a.tmod n < 0 ∧ 0 - a.tmod n = k)) := by
  have h := Int.natAbs_tmod a n
  have hk : (a.tmod n).natAbs < n := by rw [h]; simpa using Nat.mod_lt _ hn
  rcases Int.lt_or_le (a.tmod n) 0 with h0 | h0
  · exact ⟨(a.tmod n).natAbs, hk, .inr ⟨h0, by omega⟩⟩
  · exact ⟨(a.tmod n).natAbs, hk, .inl (by omega)⟩
end Go.Proofs.Ytanknjpcgceccaa
