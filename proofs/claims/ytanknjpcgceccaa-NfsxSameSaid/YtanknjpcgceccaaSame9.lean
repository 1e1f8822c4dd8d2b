/- Two arguments told to be the same: the reference's SameArgs. -/
import Derived.Test.YtanknjpcgceccaaSame8

namespace Go.Proofs.Ytanknjpcgceccaa
open Go Go.AM
set_option linter.unusedSimpArgs false
set_option maxRecDepth 100000
attribute [local irreducible] WOps WV WH WSt WNil WPick WGd
section
variable {P : Program} {g : TypeId → Value → Value → Option Bool} {xs ys : Array Value} {f : Field} {fs : List Field}
theorem eqFs_step {a b : Value} {r s : Bool} (hn : f.name ≠ "_") (ha : aPart P f.type xs f.offset = some a) (hb : aPart P f.type ys f.offset = some b) (hg : g f.type a b = some r) (ih : eqFs g P xs ys fs = some s) : eqFs g P xs ys (f :: fs) = some (r && s) := by
  simp only [eqFs]
  rw [if_pos hn, ha, hb]
  simp only [hg]
  cases r
  · rfl
  · simp only [ih, Bool.true_and]
theorem aEqF_struct {d : Nat} {t : TypeId} {fs : Array Field} {r : Bool} (hu : P.underlying t = some (.struct fs)) (hs : P.stoodInHeld t = false) (he : eqFs (fun t a b => aEqF d P t a b) P xs ys fs.toList = some r) : aEqF (d + 1) P t (.agg xs) (.agg ys) = some r := by
  unfold aEqF
  rw [hu]
  simp only [hs, Bool.false_eq_true, if_false]
  exact he
theorem bin_struct {t : TypeId} {xo yo : Operand} {r : Bool} (hg : P.eqGuardType P.depth t = false) (he : aEqF 8 P t (.agg xs) (.agg ys) = some r) : aBin P .eql t xo yo (.agg xs) (.agg ys) = some (.bool r) ∧ aBin P .neq t xo yo (.agg xs) (.agg ys) = some (.bool (!r)) := by
  simp [aBin, hg, he]
theorem bin_str {t : TypeId} {xo yo : Operand} {a b : ByteArray} : aBin P .eql t xo yo (.string a) (.string b) = some (.bool (a.data.toList == b.data.toList)) := by simp [aBin, aStrBin]
theorem bin_str_ne {t : TypeId} {xo yo : Operand} {a b : ByteArray} : aBin P .neq t xo yo (.string a) (.string b) = some (.bool (!(a.data.toList == b.data.toList))) := by simp [aBin, aStrBin]
end
theorem bin_boolE {xo yo : Operand} {a b : Bool} : aBin Try.prog .eql 4 xo yo (.bool a) (.bool b) = some (.bool (a == b)) := by simp [aBin, aEqF, Try.underlying4]
theorem bin_boolN {xo yo : Operand} {a b : Bool} : aBin Try.prog .neq 4 xo yo (.bool a) (.bool b) = some (.bool (!(a == b))) := by simp [aBin, aEqF, Try.underlying4]
def eqT (a b c d : Int) : Bool := (a == c) && ((b == d) && true)
theorem st_time : Try.prog.stoodInHeld 26 = false := by kernel_rfl
theorem gd_time : Try.prog.eqGuardType Try.prog.depth 26 = false := by kernel_rfl
theorem eq_time (n : Nat) (a b c d : Int) : aEqF (n + 2) Try.prog 26 (.agg #[.int .u32 a, .int .u32 b]) (.agg #[.int .u32 c, .int .u32 d]) = some (eqT a b c d) :=
  aEqF_struct Try.underlying26 st_time (eqFs_step (by decide) rfl rfl rfl (eqFs_step (by decide) rfl rfl rfl rfl))
theorem bin_time {xo yo : Operand} {a b c d : Int} : aBin Try.prog .eql 26 xo yo (.agg #[.int .u32 a, .int .u32 b]) (.agg #[.int .u32 c, .int .u32 d]) = some (.bool (eqT a b c d)) := (bin_struct gd_time (eq_time 6 a b c d)).1
def SA.eq (s t : SA) : Bool := (s.hm == t.hm) && ((s.hu == t.hu) && ((s.hg == t.hg) && ((s.hs == t.hs) && ((s.mode == t.mode) && ((s.uid == t.uid) && ((s.gid == t.gid) && ((s.size == t.size) && ((s.ah == t.ah) && ((s.mh == t.mh) && (eqT s.a1 s.a2 t.a1 t.a2 && (eqT s.m1 s.m2 t.m1 t.m2 && true)))))))))))
theorem st_sattr : Try.prog.stoodInHeld 28 = false := by kernel_rfl
theorem gd_sattr : Try.prog.eqGuardType Try.prog.depth 28 = false := by kernel_rfl
theorem eq_sattr (n : Nat) (s t : SA) : aEqF (n + 3) Try.prog 28 (.agg s.cells.toArray) (.agg t.cells.toArray) = some (s.eq t) :=
  aEqF_struct Try.underlying28 st_sattr (eqFs_step (by decide) rfl rfl rfl (eqFs_step (by decide) rfl rfl rfl (eqFs_step (by decide) rfl rfl rfl (eqFs_step (by decide) rfl rfl rfl (eqFs_step (by decide) rfl rfl rfl (eqFs_step (by decide) rfl rfl rfl (eqFs_step (by decide) rfl rfl rfl (eqFs_step (by decide) rfl rfl rfl (eqFs_step (by decide) rfl rfl rfl (eqFs_step (by decide) rfl rfl rfl (eqFs_step (by decide) rfl rfl (eq_time _ _ _ _ _) (eqFs_step (by decide) rfl rfl (eq_time _ _ _ _ _) rfl))))))))))))
theorem bin_sattr {xo yo : Operand} {s t : SA} : aBin Try.prog .eql 28 xo yo (.agg s.cells.toArray) (.agg t.cells.toArray) = some (.bool (s.eq t)) := (bin_struct gd_sattr (eq_sattr 5 s t)).1
def AR.eq (a b : AR) : Bool := (a.file.data.toList == b.file.data.toList) && (a.to.data.toList == b.to.data.toList) && (a.name.data.toList == b.name.data.toList) && (a.toName.data.toList == b.toName.data.toList) && (a.path.data.toList == b.path.data.toList) && a.set.eq b.set && (a.guard == b.guard) && eqT a.g1 a.g2 b.g1 b.g2 && (a.access == b.access) && (a.offset == b.offset) && (a.count == b.count) && (a.stable == b.stable) && (a.mode == b.mode) && (a.type == b.type) && ((strS a.data).data.toList == (strS b.data).data.toList) && (a.verf == b.verf) && (a.cookie == b.cookie) && (a.cookieVerf == b.cookieVerf) && (a.dirCount == b.dirCount) && (a.maxCount == b.maxCount) && (a.spec1 == b.spec1) && (a.spec2 == b.spec2)
section
variable {h : Heap} {k : Nat} {a : AR} {T : TypeId}
theorem ldCell {t : TypeId} {d : TypeDesc} {cs : List Value} {o : Nat} {v : Value} (hg : h.get k = some (.cells cs T false)) (hu : Try.prog.underlying t = some d) (h1 : ∀ fs, d ≠ .struct fs) (h2 : ∀ n e, d ≠ .array n e) (hv : cs[o]? = some v) : aLoad Try.prog h t (pt k o) = some v := by rw [aLoad_at hu h1 h2 hg o, hv]
theorem ldAgg {t : TypeId} {i : TypeInfo} {fs : Array Field} {cs : List Value} {o : Nat} {v : List Value} (hg : h.get k = some (.cells cs T false)) (hu : Try.prog.underlying t = some (.struct fs)) (hi : Try.prog.info? t = some i) (ho : o + i.size ≤ cs.length) (hv : (cs.drop o).take i.size = v) : aLoad Try.prog h t (pt k o) = some (.agg v.toArray) := by
  rw [aLoad_struct hu hi, rdN, hg]
  have : Nat.ble (o + i.size) cs.length = true := ble_iff.2 ho
  simp [this, hv]
theorem ldAR (hg : h.get k = some (.cells a.cells T false)) : aLoad Try.prog h 9 (pt k 0) = some (.string a.file) ∧
    aLoad Try.prog h 9 (pt k 1) = some (.string a.to) ∧
    aLoad Try.prog h 9 (pt k 2) = some (.string a.name) ∧
    aLoad Try.prog h 9 (pt k 3) = some (.string a.toName) ∧
    aLoad Try.prog h 9 (pt k 4) = some (.string a.path) ∧
    aLoad Try.prog h 28 (pt k 5) = some (.agg a.set.cells.toArray) ∧
    aLoad Try.prog h 4 (pt k 19) = some (.bool a.guard) ∧
    aLoad Try.prog h 26 (pt k 20) = some (.agg #[.int .u32 a.g1, .int .u32 a.g2]) ∧
    aLoad Try.prog h 23 (pt k 22) = some (.int .u32 a.access) ∧
    aLoad Try.prog h 24 (pt k 23) = some (.int .u64 a.offset) ∧
    aLoad Try.prog h 23 (pt k 24) = some (.int .u32 a.count) ∧
    aLoad Try.prog h 3 (pt k 25) = some (.int .i64 a.stable) ∧
    aLoad Try.prog h 3 (pt k 26) = some (.int .i64 a.mode) ∧
    aLoad Try.prog h 3 (pt k 27) = some (.int .i64 a.type) ∧
    aLoad Try.prog h 22 (pt k 28) = some (a.dv) ∧
    aLoad Try.prog h 24 (pt k 29) = some (.int .u64 a.verf) ∧
    aLoad Try.prog h 24 (pt k 30) = some (.int .u64 a.cookie) ∧
    aLoad Try.prog h 24 (pt k 31) = some (.int .u64 a.cookieVerf) ∧
    aLoad Try.prog h 23 (pt k 32) = some (.int .u32 a.dirCount) ∧
    aLoad Try.prog h 23 (pt k 33) = some (.int .u32 a.maxCount) ∧
    aLoad Try.prog h 23 (pt k 34) = some (.int .u32 a.spec1) ∧
    aLoad Try.prog h 23 (pt k 35) = some (.int .u32 a.spec2) :=
  ⟨ldCell hg Try.underlying9 (by simp) (by simp) rfl,
  ldCell hg Try.underlying9 (by simp) (by simp) rfl,
  ldCell hg Try.underlying9 (by simp) (by simp) rfl,
  ldCell hg Try.underlying9 (by simp) (by simp) rfl,
  ldCell hg Try.underlying9 (by simp) (by simp) rfl,
  ldAgg hg Try.underlying28 (show Try.prog.info? 28 = some Try.t28 by kernel_rfl) (by show 5 + 14 ≤ _; simp [AR.cells, SA.cells]) rfl,
  ldCell hg Try.underlying4 (by simp) (by simp) rfl,
  ldAgg (v := [.int .u32 a.g1, .int .u32 a.g2]) hg Try.underlying26 iTime (by show 20 + 2 ≤ _; simp [AR.cells, SA.cells]) rfl,
  ldCell hg Try.underlying23 (by simp) (by simp) rfl,
  ldCell hg Try.underlying24 (by simp) (by simp) rfl,
  ldCell hg Try.underlying23 (by simp) (by simp) rfl,
  ldCell hg Try.underlying3 (by simp) (by simp) rfl,
  ldCell hg Try.underlying3 (by simp) (by simp) rfl,
  ldCell hg Try.underlying3 (by simp) (by simp) rfl,
  ldCell hg Try.underlying22 (by simp) (by simp) rfl,
  ldCell hg Try.underlying24 (by simp) (by simp) rfl,
  ldCell hg Try.underlying24 (by simp) (by simp) rfl,
  ldCell hg Try.underlying24 (by simp) (by simp) rfl,
  ldCell hg Try.underlying23 (by simp) (by simp) rfl,
  ldCell hg Try.underlying23 (by simp) (by simp) rfl,
  ldCell hg Try.underlying23 (by simp) (by simp) rfl,
  ldCell hg Try.underlying23 (by simp) (by simp) rfl⟩
end
set_option maxHeartbeats 8000000 in
theorem sameArgsX_am (a b : AR) (h : Heap) (ha : ∃ x n c, a.dv = .slice x n c) (hb : ∃ x n c, b.dv = .slice x n c) (ra : Row h a.dv a.data) (rb : Row h b.dv b.data) (ba : isB a.data) (bb : isB b.data) :
    Cl Try.prog 14 [.agg a.cells.toArray, .agg b.cells.toArray] h fun v h' => v = .bool (a.eq b) ∧ Same h h' noS := by
  refine Cl.enter Try.func14 rfl _ Try.ntmps14 (by simp) ?_
  intro env hl ha
  have h0 : sl env 0 = .agg a.cells.toArray := ha 0 (by simp)
  have h1 : sl env 1 = .agg b.cells.toArray := ha 1 (by simp)
  clear ha
  have oneA : a.cells.all Value.oneCell' = true := by obtain ⟨x, n, c, e⟩ := ha; simp [AR.cells, SA.cells, Value.oneCell', e]
  have oneB : b.cells.all Value.oneCell' = true := by obtain ⟨x, n, c, e⟩ := hb; simp [AR.cells, SA.cells, Value.oneCell', e]
  have xa : aBox h 30 (.agg a.cells.toArray) = some (pt h.next 0, h.push (.cells a.cells TA false)) := by simp [aBox, aNew, Value.cells, oneA]
  have xb : aBox (h.push (.cells a.cells TA false)) 30 (.agg b.cells.toArray) = some (pt (h.push (.cells a.cells TA false)).next 0, (h.push (.cells a.cells TA false)).push (.cells b.cells TA false)) := by simp [aBox, aNew, Value.cells, oneB]
  have sm : Same h ((h.push (.cells a.cells TA false)).push (.cells b.cells TA false)) noS := (Same.push _ _ _).trans (Same.push _ _ _) (fun _ x => x) (fun _ _ x => x)
  have ga : ((h.push (.cells a.cells TA false)).push (.cells b.cells TA false)).get h.next = some (.cells a.cells TA false) := Heap.get_push_old Heap.get_push_new
  have gb : ((h.push (.cells a.cells TA false)).push (.cells b.cells TA false)).get (h.push (.cells a.cells TA false)).next = some (.cells b.cells TA false) := Heap.get_push_new
  generalize hh2 : (h.push (.cells a.cells TA false)).push (.cells b.cells TA false) = h2 at xb sm ga gb
  generalize (h.push (.cells a.cells TA false)).next = kb at xb gb
  generalize h.push (.cells a.cells TA false) = h1' at xa xb
  generalize h.next = ka at xa ga
  have la := ldAR ga
  have lb := ldAR gb
  have cva := conv_row (ra.same sm (fun _ _ _ _ _ x => x)) ba
  have cvb := conv_row (rb.same sm (fun _ _ _ _ _ x => x)) bb
  clear hh2 ra rb ga gb
  cases e0 : (a.file.data.toList == b.file.data.toList)
  · skip
    repeat (first | (with_reducible refine Wp.st ?_; simp only [wS]) | with_reducible refine Wp.drawS (by decide +kernel) ?_ | simp (disch := (first | (simp only [List.length_set, hl]; omega) | omega | rfl)) only [walkA, walkB, bne_self_eq_false, beq_self_eq_true, Option.map_some, Option.map_none, reduceIte, decide_true, decide_false, Int.reduceLT, Int.reduceLE, Int.reduceMul, Int.reduceAdd, Int.reduceSub, List.append_eq, List.cons_append, List.nil_append, h0, h1, xa, xb, la, lb, cva, cvb, bin_str, bin_boolE, bin_time, bin_sattr, faA0, faA1, faA2, faA3, faA4, faA5, faA6, faA7, faA8, faA9, faA10, faA11, faA12, faA13, faA14, faA15, faA16, faA17, faA18, faA19, faA20, faA21, e0])
    simp (disch := (first | (simp only [List.length_set, hl]; omega) | omega | rfl)) only [aRes_one Try.results14, sL]
    exact ⟨by simp [AR.eq, e0], sm⟩
  cases e1 : (a.to.data.toList == b.to.data.toList)
  · skip
    repeat (first | (with_reducible refine Wp.st ?_; simp only [wS]) | with_reducible refine Wp.drawS (by decide +kernel) ?_ | simp (disch := (first | (simp only [List.length_set, hl]; omega) | omega | rfl)) only [walkA, walkB, bne_self_eq_false, beq_self_eq_true, Option.map_some, Option.map_none, reduceIte, decide_true, decide_false, Int.reduceLT, Int.reduceLE, Int.reduceMul, Int.reduceAdd, Int.reduceSub, List.append_eq, List.cons_append, List.nil_append, h0, h1, xa, xb, la, lb, cva, cvb, bin_str, bin_boolE, bin_time, bin_sattr, faA0, faA1, faA2, faA3, faA4, faA5, faA6, faA7, faA8, faA9, faA10, faA11, faA12, faA13, faA14, faA15, faA16, faA17, faA18, faA19, faA20, faA21, e0, e1])
    simp (disch := (first | (simp only [List.length_set, hl]; omega) | omega | rfl)) only [aRes_one Try.results14, sL]
    exact ⟨by simp [AR.eq, e0, e1], sm⟩
  cases e2 : (a.name.data.toList == b.name.data.toList)
  · skip
    repeat (first | (with_reducible refine Wp.st ?_; simp only [wS]) | with_reducible refine Wp.drawS (by decide +kernel) ?_ | simp (disch := (first | (simp only [List.length_set, hl]; omega) | omega | rfl)) only [walkA, walkB, bne_self_eq_false, beq_self_eq_true, Option.map_some, Option.map_none, reduceIte, decide_true, decide_false, Int.reduceLT, Int.reduceLE, Int.reduceMul, Int.reduceAdd, Int.reduceSub, List.append_eq, List.cons_append, List.nil_append, h0, h1, xa, xb, la, lb, cva, cvb, bin_str, bin_boolE, bin_time, bin_sattr, faA0, faA1, faA2, faA3, faA4, faA5, faA6, faA7, faA8, faA9, faA10, faA11, faA12, faA13, faA14, faA15, faA16, faA17, faA18, faA19, faA20, faA21, e0, e1, e2])
    simp (disch := (first | (simp only [List.length_set, hl]; omega) | omega | rfl)) only [aRes_one Try.results14, sL]
    exact ⟨by simp [AR.eq, e0, e1, e2], sm⟩
  cases e3 : (a.toName.data.toList == b.toName.data.toList)
  · skip
    repeat (first | (with_reducible refine Wp.st ?_; simp only [wS]) | with_reducible refine Wp.drawS (by decide +kernel) ?_ | simp (disch := (first | (simp only [List.length_set, hl]; omega) | omega | rfl)) only [walkA, walkB, bne_self_eq_false, beq_self_eq_true, Option.map_some, Option.map_none, reduceIte, decide_true, decide_false, Int.reduceLT, Int.reduceLE, Int.reduceMul, Int.reduceAdd, Int.reduceSub, List.append_eq, List.cons_append, List.nil_append, h0, h1, xa, xb, la, lb, cva, cvb, bin_str, bin_boolE, bin_time, bin_sattr, faA0, faA1, faA2, faA3, faA4, faA5, faA6, faA7, faA8, faA9, faA10, faA11, faA12, faA13, faA14, faA15, faA16, faA17, faA18, faA19, faA20, faA21, e0, e1, e2, e3])
    simp (disch := (first | (simp only [List.length_set, hl]; omega) | omega | rfl)) only [aRes_one Try.results14, sL]
    exact ⟨by simp [AR.eq, e0, e1, e2, e3], sm⟩
  cases e4 : (a.path.data.toList == b.path.data.toList)
  · skip
    repeat (first | (with_reducible refine Wp.st ?_; simp only [wS]) | with_reducible refine Wp.drawS (by decide +kernel) ?_ | simp (disch := (first | (simp only [List.length_set, hl]; omega) | omega | rfl)) only [walkA, walkB, bne_self_eq_false, beq_self_eq_true, Option.map_some, Option.map_none, reduceIte, decide_true, decide_false, Int.reduceLT, Int.reduceLE, Int.reduceMul, Int.reduceAdd, Int.reduceSub, List.append_eq, List.cons_append, List.nil_append, h0, h1, xa, xb, la, lb, cva, cvb, bin_str, bin_boolE, bin_time, bin_sattr, faA0, faA1, faA2, faA3, faA4, faA5, faA6, faA7, faA8, faA9, faA10, faA11, faA12, faA13, faA14, faA15, faA16, faA17, faA18, faA19, faA20, faA21, e0, e1, e2, e3, e4])
    simp (disch := (first | (simp only [List.length_set, hl]; omega) | omega | rfl)) only [aRes_one Try.results14, sL]
    exact ⟨by simp [AR.eq, e0, e1, e2, e3, e4], sm⟩
  cases e5 : a.set.eq b.set
  · skip
    repeat (first | (with_reducible refine Wp.st ?_; simp only [wS]) | with_reducible refine Wp.drawS (by decide +kernel) ?_ | simp (disch := (first | (simp only [List.length_set, hl]; omega) | omega | rfl)) only [walkA, walkB, bne_self_eq_false, beq_self_eq_true, Option.map_some, Option.map_none, reduceIte, decide_true, decide_false, Int.reduceLT, Int.reduceLE, Int.reduceMul, Int.reduceAdd, Int.reduceSub, List.append_eq, List.cons_append, List.nil_append, h0, h1, xa, xb, la, lb, cva, cvb, bin_str, bin_boolE, bin_time, bin_sattr, faA0, faA1, faA2, faA3, faA4, faA5, faA6, faA7, faA8, faA9, faA10, faA11, faA12, faA13, faA14, faA15, faA16, faA17, faA18, faA19, faA20, faA21, e0, e1, e2, e3, e4, e5])
    simp (disch := (first | (simp only [List.length_set, hl]; omega) | omega | rfl)) only [aRes_one Try.results14, sL]
    exact ⟨by simp [AR.eq, e0, e1, e2, e3, e4, e5], sm⟩
  cases e6 : (a.guard == b.guard)
  · skip
    repeat (first | (with_reducible refine Wp.st ?_; simp only [wS]) | with_reducible refine Wp.drawS (by decide +kernel) ?_ | simp (disch := (first | (simp only [List.length_set, hl]; omega) | omega | rfl)) only [walkA, walkB, bne_self_eq_false, beq_self_eq_true, Option.map_some, Option.map_none, reduceIte, decide_true, decide_false, Int.reduceLT, Int.reduceLE, Int.reduceMul, Int.reduceAdd, Int.reduceSub, List.append_eq, List.cons_append, List.nil_append, h0, h1, xa, xb, la, lb, cva, cvb, bin_str, bin_boolE, bin_time, bin_sattr, faA0, faA1, faA2, faA3, faA4, faA5, faA6, faA7, faA8, faA9, faA10, faA11, faA12, faA13, faA14, faA15, faA16, faA17, faA18, faA19, faA20, faA21, e0, e1, e2, e3, e4, e5, e6])
    simp (disch := (first | (simp only [List.length_set, hl]; omega) | omega | rfl)) only [aRes_one Try.results14, sL]
    exact ⟨by simp [AR.eq, e0, e1, e2, e3, e4, e5, e6], sm⟩
  cases e7 : eqT a.g1 a.g2 b.g1 b.g2
  · skip
    repeat (first | (with_reducible refine Wp.st ?_; simp only [wS]) | with_reducible refine Wp.drawS (by decide +kernel) ?_ | simp (disch := (first | (simp only [List.length_set, hl]; omega) | omega | rfl)) only [walkA, walkB, bne_self_eq_false, beq_self_eq_true, Option.map_some, Option.map_none, reduceIte, decide_true, decide_false, Int.reduceLT, Int.reduceLE, Int.reduceMul, Int.reduceAdd, Int.reduceSub, List.append_eq, List.cons_append, List.nil_append, h0, h1, xa, xb, la, lb, cva, cvb, bin_str, bin_boolE, bin_time, bin_sattr, faA0, faA1, faA2, faA3, faA4, faA5, faA6, faA7, faA8, faA9, faA10, faA11, faA12, faA13, faA14, faA15, faA16, faA17, faA18, faA19, faA20, faA21, e0, e1, e2, e3, e4, e5, e6, e7])
    simp (disch := (first | (simp only [List.length_set, hl]; omega) | omega | rfl)) only [aRes_one Try.results14, sL]
    exact ⟨by simp [AR.eq, e0, e1, e2, e3, e4, e5, e6, e7], sm⟩
  cases e8 : (a.access == b.access)
  · skip
    repeat (first | (with_reducible refine Wp.st ?_; simp only [wS]) | with_reducible refine Wp.drawS (by decide +kernel) ?_ | simp (disch := (first | (simp only [List.length_set, hl]; omega) | omega | rfl)) only [walkA, walkB, bne_self_eq_false, beq_self_eq_true, Option.map_some, Option.map_none, reduceIte, decide_true, decide_false, Int.reduceLT, Int.reduceLE, Int.reduceMul, Int.reduceAdd, Int.reduceSub, List.append_eq, List.cons_append, List.nil_append, h0, h1, xa, xb, la, lb, cva, cvb, bin_str, bin_boolE, bin_time, bin_sattr, faA0, faA1, faA2, faA3, faA4, faA5, faA6, faA7, faA8, faA9, faA10, faA11, faA12, faA13, faA14, faA15, faA16, faA17, faA18, faA19, faA20, faA21, e0, e1, e2, e3, e4, e5, e6, e7, e8])
    simp (disch := (first | (simp only [List.length_set, hl]; omega) | omega | rfl)) only [aRes_one Try.results14, sL]
    exact ⟨by simp [AR.eq, e0, e1, e2, e3, e4, e5, e6, e7, e8], sm⟩
  cases e9 : (a.offset == b.offset)
  · skip
    repeat (first | (with_reducible refine Wp.st ?_; simp only [wS]) | with_reducible refine Wp.drawS (by decide +kernel) ?_ | simp (disch := (first | (simp only [List.length_set, hl]; omega) | omega | rfl)) only [walkA, walkB, bne_self_eq_false, beq_self_eq_true, Option.map_some, Option.map_none, reduceIte, decide_true, decide_false, Int.reduceLT, Int.reduceLE, Int.reduceMul, Int.reduceAdd, Int.reduceSub, List.append_eq, List.cons_append, List.nil_append, h0, h1, xa, xb, la, lb, cva, cvb, bin_str, bin_boolE, bin_time, bin_sattr, faA0, faA1, faA2, faA3, faA4, faA5, faA6, faA7, faA8, faA9, faA10, faA11, faA12, faA13, faA14, faA15, faA16, faA17, faA18, faA19, faA20, faA21, e0, e1, e2, e3, e4, e5, e6, e7, e8, e9])
    simp (disch := (first | (simp only [List.length_set, hl]; omega) | omega | rfl)) only [aRes_one Try.results14, sL]
    exact ⟨by simp [AR.eq, e0, e1, e2, e3, e4, e5, e6, e7, e8, e9], sm⟩
  cases e10 : (a.count == b.count)
  · skip
    repeat (first | (with_reducible refine Wp.st ?_; simp only [wS]) | with_reducible refine Wp.drawS (by decide +kernel) ?_ | simp (disch := (first | (simp only [List.length_set, hl]; omega) | omega | rfl)) only [walkA, walkB, bne_self_eq_false, beq_self_eq_true, Option.map_some, Option.map_none, reduceIte, decide_true, decide_false, Int.reduceLT, Int.reduceLE, Int.reduceMul, Int.reduceAdd, Int.reduceSub, List.append_eq, List.cons_append, List.nil_append, h0, h1, xa, xb, la, lb, cva, cvb, bin_str, bin_boolE, bin_time, bin_sattr, faA0, faA1, faA2, faA3, faA4, faA5, faA6, faA7, faA8, faA9, faA10, faA11, faA12, faA13, faA14, faA15, faA16, faA17, faA18, faA19, faA20, faA21, e0, e1, e2, e3, e4, e5, e6, e7, e8, e9, e10])
    simp (disch := (first | (simp only [List.length_set, hl]; omega) | omega | rfl)) only [aRes_one Try.results14, sL]
    exact ⟨by simp [AR.eq, e0, e1, e2, e3, e4, e5, e6, e7, e8, e9, e10], sm⟩
  cases e11 : (a.stable == b.stable)
  · skip
    repeat (first | (with_reducible refine Wp.st ?_; simp only [wS]) | with_reducible refine Wp.drawS (by decide +kernel) ?_ | simp (disch := (first | (simp only [List.length_set, hl]; omega) | omega | rfl)) only [walkA, walkB, bne_self_eq_false, beq_self_eq_true, Option.map_some, Option.map_none, reduceIte, decide_true, decide_false, Int.reduceLT, Int.reduceLE, Int.reduceMul, Int.reduceAdd, Int.reduceSub, List.append_eq, List.cons_append, List.nil_append, h0, h1, xa, xb, la, lb, cva, cvb, bin_str, bin_boolE, bin_time, bin_sattr, faA0, faA1, faA2, faA3, faA4, faA5, faA6, faA7, faA8, faA9, faA10, faA11, faA12, faA13, faA14, faA15, faA16, faA17, faA18, faA19, faA20, faA21, e0, e1, e2, e3, e4, e5, e6, e7, e8, e9, e10, e11])
    simp (disch := (first | (simp only [List.length_set, hl]; omega) | omega | rfl)) only [aRes_one Try.results14, sL]
    exact ⟨by simp [AR.eq, e0, e1, e2, e3, e4, e5, e6, e7, e8, e9, e10, e11], sm⟩
  cases e12 : (a.mode == b.mode)
  · skip
    repeat (first | (with_reducible refine Wp.st ?_; simp only [wS]) | with_reducible refine Wp.drawS (by decide +kernel) ?_ | simp (disch := (first | (simp only [List.length_set, hl]; omega) | omega | rfl)) only [walkA, walkB, bne_self_eq_false, beq_self_eq_true, Option.map_some, Option.map_none, reduceIte, decide_true, decide_false, Int.reduceLT, Int.reduceLE, Int.reduceMul, Int.reduceAdd, Int.reduceSub, List.append_eq, List.cons_append, List.nil_append, h0, h1, xa, xb, la, lb, cva, cvb, bin_str, bin_boolE, bin_time, bin_sattr, faA0, faA1, faA2, faA3, faA4, faA5, faA6, faA7, faA8, faA9, faA10, faA11, faA12, faA13, faA14, faA15, faA16, faA17, faA18, faA19, faA20, faA21, e0, e1, e2, e3, e4, e5, e6, e7, e8, e9, e10, e11, e12])
    simp (disch := (first | (simp only [List.length_set, hl]; omega) | omega | rfl)) only [aRes_one Try.results14, sL]
    exact ⟨by simp [AR.eq, e0, e1, e2, e3, e4, e5, e6, e7, e8, e9, e10, e11, e12], sm⟩
  cases e13 : (a.type == b.type)
  · skip
    repeat (first | (with_reducible refine Wp.st ?_; simp only [wS]) | with_reducible refine Wp.drawS (by decide +kernel) ?_ | simp (disch := (first | (simp only [List.length_set, hl]; omega) | omega | rfl)) only [walkA, walkB, bne_self_eq_false, beq_self_eq_true, Option.map_some, Option.map_none, reduceIte, decide_true, decide_false, Int.reduceLT, Int.reduceLE, Int.reduceMul, Int.reduceAdd, Int.reduceSub, List.append_eq, List.cons_append, List.nil_append, h0, h1, xa, xb, la, lb, cva, cvb, bin_str, bin_boolE, bin_time, bin_sattr, faA0, faA1, faA2, faA3, faA4, faA5, faA6, faA7, faA8, faA9, faA10, faA11, faA12, faA13, faA14, faA15, faA16, faA17, faA18, faA19, faA20, faA21, e0, e1, e2, e3, e4, e5, e6, e7, e8, e9, e10, e11, e12, e13])
    simp (disch := (first | (simp only [List.length_set, hl]; omega) | omega | rfl)) only [aRes_one Try.results14, sL]
    exact ⟨by simp [AR.eq, e0, e1, e2, e3, e4, e5, e6, e7, e8, e9, e10, e11, e12, e13], sm⟩
  cases e14 : ((strS a.data).data.toList == (strS b.data).data.toList)
  · skip
    repeat (first | (with_reducible refine Wp.st ?_; simp only [wS]) | with_reducible refine Wp.drawS (by decide +kernel) ?_ | simp (disch := (first | (simp only [List.length_set, hl]; omega) | omega | rfl)) only [walkA, walkB, bne_self_eq_false, beq_self_eq_true, Option.map_some, Option.map_none, reduceIte, decide_true, decide_false, Int.reduceLT, Int.reduceLE, Int.reduceMul, Int.reduceAdd, Int.reduceSub, List.append_eq, List.cons_append, List.nil_append, h0, h1, xa, xb, la, lb, cva, cvb, bin_str, bin_boolE, bin_time, bin_sattr, faA0, faA1, faA2, faA3, faA4, faA5, faA6, faA7, faA8, faA9, faA10, faA11, faA12, faA13, faA14, faA15, faA16, faA17, faA18, faA19, faA20, faA21, e0, e1, e2, e3, e4, e5, e6, e7, e8, e9, e10, e11, e12, e13, e14])
    simp (disch := (first | (simp only [List.length_set, hl]; omega) | omega | rfl)) only [aRes_one Try.results14, sL]
    exact ⟨by simp [AR.eq, e0, e1, e2, e3, e4, e5, e6, e7, e8, e9, e10, e11, e12, e13, e14], sm⟩
  cases e15 : (a.verf == b.verf)
  · skip
    repeat (first | (with_reducible refine Wp.st ?_; simp only [wS]) | with_reducible refine Wp.drawS (by decide +kernel) ?_ | simp (disch := (first | (simp only [List.length_set, hl]; omega) | omega | rfl)) only [walkA, walkB, bne_self_eq_false, beq_self_eq_true, Option.map_some, Option.map_none, reduceIte, decide_true, decide_false, Int.reduceLT, Int.reduceLE, Int.reduceMul, Int.reduceAdd, Int.reduceSub, List.append_eq, List.cons_append, List.nil_append, h0, h1, xa, xb, la, lb, cva, cvb, bin_str, bin_boolE, bin_time, bin_sattr, faA0, faA1, faA2, faA3, faA4, faA5, faA6, faA7, faA8, faA9, faA10, faA11, faA12, faA13, faA14, faA15, faA16, faA17, faA18, faA19, faA20, faA21, e0, e1, e2, e3, e4, e5, e6, e7, e8, e9, e10, e11, e12, e13, e14, e15])
    simp (disch := (first | (simp only [List.length_set, hl]; omega) | omega | rfl)) only [aRes_one Try.results14, sL]
    exact ⟨by simp [AR.eq, e0, e1, e2, e3, e4, e5, e6, e7, e8, e9, e10, e11, e12, e13, e14, e15], sm⟩
  cases e16 : (a.cookie == b.cookie)
  · skip
    repeat (first | (with_reducible refine Wp.st ?_; simp only [wS]) | with_reducible refine Wp.drawS (by decide +kernel) ?_ | simp (disch := (first | (simp only [List.length_set, hl]; omega) | omega | rfl)) only [walkA, walkB, bne_self_eq_false, beq_self_eq_true, Option.map_some, Option.map_none, reduceIte, decide_true, decide_false, Int.reduceLT, Int.reduceLE, Int.reduceMul, Int.reduceAdd, Int.reduceSub, List.append_eq, List.cons_append, List.nil_append, h0, h1, xa, xb, la, lb, cva, cvb, bin_str, bin_boolE, bin_time, bin_sattr, faA0, faA1, faA2, faA3, faA4, faA5, faA6, faA7, faA8, faA9, faA10, faA11, faA12, faA13, faA14, faA15, faA16, faA17, faA18, faA19, faA20, faA21, e0, e1, e2, e3, e4, e5, e6, e7, e8, e9, e10, e11, e12, e13, e14, e15, e16])
    simp (disch := (first | (simp only [List.length_set, hl]; omega) | omega | rfl)) only [aRes_one Try.results14, sL]
    exact ⟨by simp [AR.eq, e0, e1, e2, e3, e4, e5, e6, e7, e8, e9, e10, e11, e12, e13, e14, e15, e16], sm⟩
  cases e17 : (a.cookieVerf == b.cookieVerf)
  · skip
    repeat (first | (with_reducible refine Wp.st ?_; simp only [wS]) | with_reducible refine Wp.drawS (by decide +kernel) ?_ | simp (disch := (first | (simp only [List.length_set, hl]; omega) | omega | rfl)) only [walkA, walkB, bne_self_eq_false, beq_self_eq_true, Option.map_some, Option.map_none, reduceIte, decide_true, decide_false, Int.reduceLT, Int.reduceLE, Int.reduceMul, Int.reduceAdd, Int.reduceSub, List.append_eq, List.cons_append, List.nil_append, h0, h1, xa, xb, la, lb, cva, cvb, bin_str, bin_boolE, bin_time, bin_sattr, faA0, faA1, faA2, faA3, faA4, faA5, faA6, faA7, faA8, faA9, faA10, faA11, faA12, faA13, faA14, faA15, faA16, faA17, faA18, faA19, faA20, faA21, e0, e1, e2, e3, e4, e5, e6, e7, e8, e9, e10, e11, e12, e13, e14, e15, e16, e17])
    simp (disch := (first | (simp only [List.length_set, hl]; omega) | omega | rfl)) only [aRes_one Try.results14, sL]
    exact ⟨by simp [AR.eq, e0, e1, e2, e3, e4, e5, e6, e7, e8, e9, e10, e11, e12, e13, e14, e15, e16, e17], sm⟩
  cases e18 : (a.dirCount == b.dirCount)
  · skip
    repeat (first | (with_reducible refine Wp.st ?_; simp only [wS]) | with_reducible refine Wp.drawS (by decide +kernel) ?_ | simp (disch := (first | (simp only [List.length_set, hl]; omega) | omega | rfl)) only [walkA, walkB, bne_self_eq_false, beq_self_eq_true, Option.map_some, Option.map_none, reduceIte, decide_true, decide_false, Int.reduceLT, Int.reduceLE, Int.reduceMul, Int.reduceAdd, Int.reduceSub, List.append_eq, List.cons_append, List.nil_append, h0, h1, xa, xb, la, lb, cva, cvb, bin_str, bin_boolE, bin_time, bin_sattr, faA0, faA1, faA2, faA3, faA4, faA5, faA6, faA7, faA8, faA9, faA10, faA11, faA12, faA13, faA14, faA15, faA16, faA17, faA18, faA19, faA20, faA21, e0, e1, e2, e3, e4, e5, e6, e7, e8, e9, e10, e11, e12, e13, e14, e15, e16, e17, e18])
    simp (disch := (first | (simp only [List.length_set, hl]; omega) | omega | rfl)) only [aRes_one Try.results14, sL]
    exact ⟨by simp [AR.eq, e0, e1, e2, e3, e4, e5, e6, e7, e8, e9, e10, e11, e12, e13, e14, e15, e16, e17, e18], sm⟩
  cases e19 : (a.maxCount == b.maxCount)
  · skip
    repeat (first | (with_reducible refine Wp.st ?_; simp only [wS]) | with_reducible refine Wp.drawS (by decide +kernel) ?_ | simp (disch := (first | (simp only [List.length_set, hl]; omega) | omega | rfl)) only [walkA, walkB, bne_self_eq_false, beq_self_eq_true, Option.map_some, Option.map_none, reduceIte, decide_true, decide_false, Int.reduceLT, Int.reduceLE, Int.reduceMul, Int.reduceAdd, Int.reduceSub, List.append_eq, List.cons_append, List.nil_append, h0, h1, xa, xb, la, lb, cva, cvb, bin_str, bin_boolE, bin_time, bin_sattr, faA0, faA1, faA2, faA3, faA4, faA5, faA6, faA7, faA8, faA9, faA10, faA11, faA12, faA13, faA14, faA15, faA16, faA17, faA18, faA19, faA20, faA21, e0, e1, e2, e3, e4, e5, e6, e7, e8, e9, e10, e11, e12, e13, e14, e15, e16, e17, e18, e19])
    simp (disch := (first | (simp only [List.length_set, hl]; omega) | omega | rfl)) only [aRes_one Try.results14, sL]
    exact ⟨by simp [AR.eq, e0, e1, e2, e3, e4, e5, e6, e7, e8, e9, e10, e11, e12, e13, e14, e15, e16, e17, e18, e19], sm⟩
  cases e20 : (a.spec1 == b.spec1)
  · skip
    repeat (first | (with_reducible refine Wp.st ?_; simp only [wS]) | with_reducible refine Wp.drawS (by decide +kernel) ?_ | simp (disch := (first | (simp only [List.length_set, hl]; omega) | omega | rfl)) only [walkA, walkB, bne_self_eq_false, beq_self_eq_true, Option.map_some, Option.map_none, reduceIte, decide_true, decide_false, Int.reduceLT, Int.reduceLE, Int.reduceMul, Int.reduceAdd, Int.reduceSub, List.append_eq, List.cons_append, List.nil_append, h0, h1, xa, xb, la, lb, cva, cvb, bin_str, bin_boolE, bin_time, bin_sattr, faA0, faA1, faA2, faA3, faA4, faA5, faA6, faA7, faA8, faA9, faA10, faA11, faA12, faA13, faA14, faA15, faA16, faA17, faA18, faA19, faA20, faA21, e0, e1, e2, e3, e4, e5, e6, e7, e8, e9, e10, e11, e12, e13, e14, e15, e16, e17, e18, e19, e20])
    simp (disch := (first | (simp only [List.length_set, hl]; omega) | omega | rfl)) only [aRes_one Try.results14, sL]
    exact ⟨by simp [AR.eq, e0, e1, e2, e3, e4, e5, e6, e7, e8, e9, e10, e11, e12, e13, e14, e15, e16, e17, e18, e19, e20], sm⟩
  cases e21 : (a.spec2 == b.spec2)
  · skip
    repeat (first | (with_reducible refine Wp.st ?_; simp only [wS]) | with_reducible refine Wp.drawS (by decide +kernel) ?_ | simp (disch := (first | (simp only [List.length_set, hl]; omega) | omega | rfl)) only [walkA, walkB, bne_self_eq_false, beq_self_eq_true, Option.map_some, Option.map_none, reduceIte, decide_true, decide_false, Int.reduceLT, Int.reduceLE, Int.reduceMul, Int.reduceAdd, Int.reduceSub, List.append_eq, List.cons_append, List.nil_append, h0, h1, xa, xb, la, lb, cva, cvb, bin_str, bin_boolE, bin_time, bin_sattr, faA0, faA1, faA2, faA3, faA4, faA5, faA6, faA7, faA8, faA9, faA10, faA11, faA12, faA13, faA14, faA15, faA16, faA17, faA18, faA19, faA20, faA21, e0, e1, e2, e3, e4, e5, e6, e7, e8, e9, e10, e11, e12, e13, e14, e15, e16, e17, e18, e19, e20, e21])
    simp (disch := (first | (simp only [List.length_set, hl]; omega) | omega | rfl)) only [aRes_one Try.results14, sL]
    exact ⟨by simp [AR.eq, e0, e1, e2, e3, e4, e5, e6, e7, e8, e9, e10, e11, e12, e13, e14, e15, e16, e17, e18, e19, e20, e21], sm⟩
  repeat (first | (with_reducible refine Wp.st ?_; simp only [wS]) | with_reducible refine Wp.drawS (by decide +kernel) ?_ | simp (disch := (first | (simp only [List.length_set, hl]; omega) | omega | rfl)) only [walkA, walkB, bne_self_eq_false, beq_self_eq_true, Option.map_some, Option.map_none, reduceIte, decide_true, decide_false, Int.reduceLT, Int.reduceLE, Int.reduceMul, Int.reduceAdd, Int.reduceSub, List.append_eq, List.cons_append, List.nil_append, h0, h1, xa, xb, la, lb, cva, cvb, bin_str, bin_boolE, bin_time, bin_sattr, faA0, faA1, faA2, faA3, faA4, faA5, faA6, faA7, faA8, faA9, faA10, faA11, faA12, faA13, faA14, faA15, faA16, faA17, faA18, faA19, faA20, faA21, e0, e1, e2, e3, e4, e5, e6, e7, e8, e9, e10, e11, e12, e13, e14, e15, e16, e17, e18, e19, e20, e21])
  simp (disch := (first | (simp only [List.length_set, hl]; omega) | omega | rfl)) only [aRes_one Try.results14, sL]
  exact ⟨by simp [AR.eq, e0, e1, e2, e3, e4, e5, e6, e7, e8, e9, e10, e11, e12, e13, e14, e15, e16, e17, e18, e19, e20, e21], sm⟩
end Go.Proofs.Ytanknjpcgceccaa

namespace Go.Proofs.Ytanknjpcgceccaa
open Go Go.AM
set_option linter.unusedSimpArgs false
set_option maxRecDepth 100000
attribute [local irreducible] WOps WV WH WSt WNil WPick WGd
set_option maxHeartbeats 1000000 in
theorem equalB_am (v1 v2 : Value) (us bs : List Int) (h : Heap) (r1 : Row h v1 (us.map (Value.int .u8))) (r2 : Row h v2 (bs.map (Value.int .u8))) (hm : us.length ≤ 9223372036854775807) :
    Cl Try.prog 46 [v1, v2] h fun v h' => v = .bool (decide (us = bs)) ∧ h' = h := by
  refine Cl.enter Try.func46 rfl _ Try.ntmps46 (by simp) ?_
  intro env hl ha
  have h0 : sl env 0 = v1 := ha 0 (by simp)
  have h1 : sl env 1 = v2 := ha 1 (by simp)
  clear ha
  have l1 := len_any r1 Try.underlying22
  have l2 := len_any r2 Try.underlying22
  simp only [List.length_map] at l1 l2
  by_cases hn : us.length = bs.length
  · have d1 : ((us.length : Int) != bs.length) = false := by rw [hn, bne_self_eq_false]
    repeat (first | (with_reducible refine Wp.st ?_; simp only [wS]) | with_reducible refine Wp.drawS (by decide +kernel) ?_ | simp (disch := (first | (simp only [List.length_set, hl]; omega) | omega | rfl)) only [walkA, walkB, bne_self_eq_false, beq_self_eq_true, Option.map_some, Option.map_none, reduceIte, decide_true, decide_false, Int.reduceLT, Int.reduceLE, Int.reduceMul, Int.reduceAdd, Int.reduceSub, h0, h1, l1, l2, d1])
    refine Wp.cond_false (by first | ((simp (disch := (first | (simp only [List.length_set, hl]; omega) | omega | rfl)) only [sL, aEval_tmp]); done) | ((simp (disch := (first | (simp only [List.length_set, hl]; omega) | omega | rfl)) only [sL, aEval_tmp]); rfl)) ?_
    repeat (first | (with_reducible refine Wp.st ?_; simp only [wS]) | with_reducible refine Wp.drawS (by decide +kernel) ?_ | simp (disch := (first | (simp only [List.length_set, hl]; omega) | omega | rfl)) only [walkA, walkB, bne_self_eq_false, beq_self_eq_true, Option.map_some, Option.map_none, reduceIte, decide_true, decide_false, Int.reduceLT, Int.reduceLE, Int.reduceMul, Int.reduceAdd, Int.reduceSub, h0, h1, l1])
    refine Wp.loop (fun m e hh => ∃ j : Nat, j + m = us.length ∧ e.length = 26 ∧ sl e 0 = v1 ∧ sl e 1 = v2 ∧ sl e 12 = .int .i64 us.length ∧ sl e 13 = .int .i64 j ∧ hh = h ∧ us.take j = bs.take j) us.length
      ⟨0, by omega, by simp [hl], by (simp (disch := (first | (simp only [List.length_set, hl]; omega) | omega | rfl)) only [sL, h0]), by (simp (disch := (first | (simp only [List.length_set, hl]; omega) | omega | rfl)) only [sL, h1]), by (simp (disch := (first | (simp only [List.length_set, hl]; omega) | omega | rfl)) only [sL]), by (simp (disch := (first | (simp only [List.length_set, hl]; omega) | omega | rfl)) only [sL]); rfl, rfl, by simp⟩ ?_
    clear h0 h1 hl env
    rintro m e hh ⟨j, hj, hl, e0, e1, e12, e13, eh, et⟩
    subst eh
    repeat (first | (with_reducible refine Wp.st ?_; simp only [wS]) | with_reducible refine Wp.drawS (by decide +kernel) ?_ | simp (disch := (first | (simp only [List.length_set, hl]; omega) | omega | rfl)) only [walkA, walkB, bne_self_eq_false, beq_self_eq_true, Option.map_some, Option.map_none, reduceIte, decide_true, decide_false, Int.reduceLT, Int.reduceLE, Int.reduceMul, Int.reduceAdd, Int.reduceSub, e0, e1, e12, e13])
    by_cases hlt : j < us.length
    · refine Wp.cond_true (by (simp (disch := (first | (simp only [List.length_set, hl]; omega) | omega | rfl)) only [sL, aEval_tmp]); simpa using hlt) ?_
      have hlt2 : j < bs.length := by omega
      obtain ⟨ka, oa, x1, x2⟩ := r1.index (P := Try.prog) Try.underlying22 i5 rfl (j := j) (kd := .i64) (by simpa using hlt)
      obtain ⟨kb, ob, y1, y2⟩ := r2.index (P := Try.prog) Try.underlying22 i5 rfl (j := j) (kd := .i64) (by simpa using hlt2)
      rw [← aLoad_one (P := Try.prog) Try.underlying5 (by simp) (by simp), List.getElem_map] at x2 y2
      have hta : us.take (j + 1) = us.take j ++ [us[j]] := List.take_succ_eq_append_getElem hlt
      have htb : bs.take (j + 1) = bs.take j ++ [bs[j]] := List.take_succ_eq_append_getElem hlt2
      have hea : us[j]? = some us[j] := List.getElem?_eq_getElem hlt
      have heb : bs[j]? = some bs[j] := List.getElem?_eq_getElem hlt2
      generalize us[j] = a at x2 hta hea
      generalize bs[j] = b at y2 htb heb
      by_cases hab : a = b
      · have d : (a != b) = false := by simpa using hab
        repeat (first | (with_reducible refine Wp.st ?_; simp only [wS]) | with_reducible refine Wp.drawS (by decide +kernel) ?_ | simp (disch := (first | (simp only [List.length_set, hl]; omega) | omega | rfl)) only [walkA, walkB, bne_self_eq_false, beq_self_eq_true, Option.map_some, Option.map_none, reduceIte, decide_true, decide_false, Int.reduceLT, Int.reduceLE, Int.reduceMul, Int.reduceAdd, Int.reduceSub, e0, e1, e12, e13, x1, x2, y1, y2, d])
        refine Wp.cond_false (by first | ((simp (disch := (first | (simp only [List.length_set, hl]; omega) | omega | rfl)) only [sL, aEval_tmp]); done) | ((simp (disch := (first | (simp only [List.length_set, hl]; omega) | omega | rfl)) only [sL, aEval_tmp]); rfl)) ?_
        repeat (first | (with_reducible refine Wp.st ?_; simp only [wS]) | with_reducible refine Wp.drawS (by decide +kernel) ?_ | simp (disch := (first | (simp only [List.length_set, hl]; omega) | omega | rfl)) only [walkA, walkB, bne_self_eq_false, beq_self_eq_true, Option.map_some, Option.map_none, reduceIte, decide_true, decide_false, Int.reduceLT, Int.reduceLE, Int.reduceMul, Int.reduceAdd, Int.reduceSub, e0, e1, e12, e13])
        exact ⟨m - 1, by omega, j + 1, by omega, by simp [hl], by (simp (disch := (first | (simp only [List.length_set, hl]; omega) | omega | rfl)) only [sL, e0]), by (simp (disch := (first | (simp only [List.length_set, hl]; omega) | omega | rfl)) only [sL, e1]), by (simp (disch := (first | (simp only [List.length_set, hl]; omega) | omega | rfl)) only [sL, e12]), by (simp (disch := (first | (simp only [List.length_set, hl]; omega) | omega | rfl)) only [sL, Int.natCast_add]); rfl, by trivial, by rw [hta, htb, et, hab]⟩
      · have d : (a != b) = true := by simpa using hab
        repeat (first | (with_reducible refine Wp.st ?_; simp only [wS]) | with_reducible refine Wp.drawS (by decide +kernel) ?_ | simp (disch := (first | (simp only [List.length_set, hl]; omega) | omega | rfl)) only [walkA, walkB, bne_self_eq_false, beq_self_eq_true, Option.map_some, Option.map_none, reduceIte, decide_true, decide_false, Int.reduceLT, Int.reduceLE, Int.reduceMul, Int.reduceAdd, Int.reduceSub, e0, e1, e12, e13, x1, x2, y1, y2, d])
        refine Wp.cond_true (by first | ((simp (disch := (first | (simp only [List.length_set, hl]; omega) | omega | rfl)) only [sL, aEval_tmp]); done) | ((simp (disch := (first | (simp only [List.length_set, hl]; omega) | omega | rfl)) only [sL, aEval_tmp]); rfl)) ?_
        repeat (first | (with_reducible refine Wp.st ?_; simp only [wS]) | with_reducible refine Wp.drawS (by decide +kernel) ?_ | simp (disch := (first | (simp only [List.length_set, hl]; omega) | omega | rfl)) only [walkA, walkB, bne_self_eq_false, beq_self_eq_true, Option.map_some, Option.map_none, reduceIte, decide_true, decide_false, Int.reduceLT, Int.reduceLE, Int.reduceMul, Int.reduceAdd, Int.reduceSub, e0])
        simp (disch := (first | (simp only [List.length_set, hl]; omega) | omega | rfl)) only [aRes_one Try.results46, sL]
        have : us ≠ bs := fun e => hab (by rw [e, heb] at hea; injection hea with hea; exact hea.symm)
        exact ⟨by simp [this], trivial⟩
    · refine Wp.cond_false (by (simp (disch := (first | (simp only [List.length_set, hl]; omega) | omega | rfl)) only [sL, aEval_tmp]); simpa using hlt) ?_
      repeat (first | (with_reducible refine Wp.st ?_; simp only [wS]) | with_reducible refine Wp.drawS (by decide +kernel) ?_ | simp (disch := (first | (simp only [List.length_set, hl]; omega) | omega | rfl)) only [walkA, walkB, bne_self_eq_false, beq_self_eq_true, Option.map_some, Option.map_none, reduceIte, decide_true, decide_false, Int.reduceLT, Int.reduceLE, Int.reduceMul, Int.reduceAdd, Int.reduceSub, e0, e1, e12, e13])
      simp (disch := (first | (simp only [List.length_set, hl]; omega) | omega | rfl)) only [aRes_one Try.results46, sL]
      rw [List.take_of_length_le (by omega), List.take_of_length_le (by omega)] at et
      exact ⟨by simp [et], trivial⟩
  · have d1 : ((us.length : Int) != bs.length) = true := by simp only [bne_iff_ne, ne_eq]; omega
    repeat (first | (with_reducible refine Wp.st ?_; simp only [wS]) | with_reducible refine Wp.drawS (by decide +kernel) ?_ | simp (disch := (first | (simp only [List.length_set, hl]; omega) | omega | rfl)) only [walkA, walkB, bne_self_eq_false, beq_self_eq_true, Option.map_some, Option.map_none, reduceIte, decide_true, decide_false, Int.reduceLT, Int.reduceLE, Int.reduceMul, Int.reduceAdd, Int.reduceSub, h0, h1, l1, l2, d1])
    refine Wp.cond_true (by first | ((simp (disch := (first | (simp only [List.length_set, hl]; omega) | omega | rfl)) only [sL, aEval_tmp]); done) | ((simp (disch := (first | (simp only [List.length_set, hl]; omega) | omega | rfl)) only [sL, aEval_tmp]); rfl)) ?_
    repeat (first | (with_reducible refine Wp.st ?_; simp only [wS]) | with_reducible refine Wp.drawS (by decide +kernel) ?_ | simp (disch := (first | (simp only [List.length_set, hl]; omega) | omega | rfl)) only [walkA, walkB, bne_self_eq_false, beq_self_eq_true, Option.map_some, Option.map_none, reduceIte, decide_true, decide_false, Int.reduceLT, Int.reduceLE, Int.reduceMul, Int.reduceAdd, Int.reduceSub, h0])
    simp (disch := (first | (simp only [List.length_set, hl]; omega) | omega | rfl)) only [aRes_one Try.results46, sL]
    have : us ≠ bs := fun e => hn (by rw [e])
    exact ⟨by simp [this], trivial⟩
end Go.Proofs.Ytanknjpcgceccaa

namespace Go.Proofs.Ytanknjpcgceccaa
open Go Go.AM
set_option linter.unusedSimpArgs false
set_option maxRecDepth 100000
def kd : Value → Nat
  | .bool _ => 0
  | .int .i64 _ => 1
  | .int .u32 x => if 0 ≤ x ∧ x < 4294967296 then 2 else 9
  | .int .u64 _ => 3
  | .string _ => 4
  | .slice _ _ _ => 5
  | _ => 9
def WT (K : List Nat) (cs : List Value) : Prop := cs.map kd = K
section
variable {K : List Nat} {cs : List Value} {o t : Nat} {v : Value} {bs : List Int} {x : RS}
theorem set_same {α : Type} {l : List α} {o : Nat} {x : α} (h : l[o]? = some x) : l.set o x = l := by
  obtain ⟨hl, he⟩ := List.getElem?_eq_some_iff.1 h
  rw [← he]; exact List.set_getElem_self hl
theorem WT.set (h : WT K cs) (hk : K[o]? = some (kd v)) : WT K (cs.set o v) := by
  unfold WT at *
  rw [List.map_set, h, set_same hk]
end
section
variable {bs : List Int} {x : RS} (hby : ∀ b ∈ bs, 0 ≤ b ∧ b < 256)
include hby
end
end Go.Proofs.Ytanknjpcgceccaa

namespace Go.Proofs.Ytanknjpcgceccaa
open Go Go.AM
set_option linter.unusedSimpArgs false
set_option maxRecDepth 100000
attribute [local irreducible] WOps WV WH WSt WNil WPick WGd
abbrev TO : TypeId := 93
abbrev TRW : TypeId := 91
def OW (Z : Nat → Prop) (H0 h : Heap) (ko kw : Nat) (x : WS) (L : List Blk) : Prop := ∃ wv, WB Z H0 h kw TRW wv x.bs ((ko, [pt kw 0, .bool x.bad], TO) :: L)
section
variable {Z : Nat → Prop} {H0 h h' : Heap} {ko kw : Nat} {x : WS} {L L' : List Blk} {kt : Nat} {cs : List Value} {T : TypeId} {b : Blk}
theorem OW.perm (c : OW Z H0 h ko kw x L) (p : L.Perm L') : OW Z H0 h ko kw x L' := by
  obtain ⟨wv, c⟩ := c
  exact ⟨wv, WB.perm c (p.cons _)⟩
theorem OW.drop (c : OW Z H0 h ko kw x (b :: L)) : OW Z H0 h ko kw x L := by
  obtain ⟨wv, c⟩ := c
  exact ⟨wv, (WB.perm c (.swap _ _ _)).drop⟩
theorem OW.alloc (c : OW Z H0 h ko kw x L) (cs : List Value) (T : TypeId) : OW Z H0 (h.push (.cells cs T false)) ko kw x ((h.next, cs, T) :: L) := by
  obtain ⟨wv, c⟩ := c
  exact ⟨wv, (WB.alloc c cs T).perm (.swap _ _ _)⟩
theorem OW.lb (c : OW Z H0 h ko kw x L) : aLoad Try.prog h 4 (pt ko 1) = some (.bool x.bad) := by
  obtain ⟨wv, c⟩ := c
  rw [c.ld Try.underlying4 (by simp) (by simp)]; rfl
theorem OW.ld {t : TypeId} {d : TypeDesc} (c : OW Z H0 h ko kw x ((kt, cs, T) :: L)) (hu : Try.prog.underlying t = some d) (h1 : ∀ fs, d ≠ .struct fs) (h2 : ∀ n e, d ≠ .array n e) (o : Nat) : aLoad Try.prog h t (pt kt o) = cs[o]? := by
  obtain ⟨wv, c⟩ := c
  exact (WB.perm c (.swap _ _ _)).ld hu h1 h2 o
theorem OW.ldS {t : TypeId} {i : TypeInfo} {fs : Array Field} (c : OW Z H0 h ko kw x ((kt, cs, T) :: L)) (hu : Try.prog.underlying t = some (.struct fs)) (hi : Try.prog.info? t = some i) (o : Nat) (ho : o + i.size ≤ cs.length) : aLoad Try.prog h t (pt kt o) = some (.agg ((cs.drop o).take i.size).toArray) := by
  obtain ⟨wv, c⟩ := c
  have hg := c.st.get (kt, cs, T) (by simp)
  rw [aLoad_struct hu hi, rdN, hg]
  have : Nat.ble (o + i.size) cs.length = true := ble_iff.2 ho
  simp [this]
theorem OW.sb (c : OW Z H0 h ko kw x L) (b : Bool) : ∃ h2, aStore Try.prog h 4 (pt ko 1) (.bool b) = some h2 ∧ OW Z H0 h2 ko kw ⟨x.bs, b⟩ L := by
  obtain ⟨wv, c⟩ := c
  obtain ⟨h2, p, q⟩ := c.put (t := 4) iB rfl 1 (by simp) (v := .bool b) rfl rfl
  exact ⟨h2, p, wv, q⟩
theorem OW.done (c : OW Z H0 h ko kw x L) {bs' : List Value} {f : FuncId} {args : List Value} (hc : ∀ wv, WR h kw TRW wv x.bs → x.bs.all Value.oneCell' = true → (∀ j, own wv kw j → ¬ Z j ∧ ∀ y ∈ L, y.1 ≠ j) → Cl Try.prog f args h (WQ h kw TRW wv bs')) (h1 : x.bs.all Value.oneCell' = true → bs'.all Value.oneCell' = true) :
    Cl Try.prog f args h fun v h' => v = .tuple #[] ∧ OW Z H0 h' ko kw ⟨bs', x.bad⟩ L := by
  obtain ⟨wv, c⟩ := c
  refine (hc wv c.wr c.one (fun j hj => ⟨?_, ?_⟩)).mono fun v h' q => ?_
  · rcases hj with rfl | hj
    · exact c.st.off _ (List.mem_cons_self)
    · exact (c.off j hj).2.1
  · intro y hy
    rcases hj with rfl | hj
    · exact c.st.ne _ (List.mem_cons_of_mem _ hy)
    · exact (c.off j hj).2.2 y (List.mem_cons_of_mem _ hy)
  · obtain ⟨hr, v', hw, hs, hf⟩ := q
    exact ⟨hr, v', WB.write c hw hs hf (h1 c.one)⟩
end
end Go.Proofs.Ytanknjpcgceccaa

namespace Go.Proofs.Ytanknjpcgceccaa
open Go Go.AM
set_option linter.unusedSimpArgs false
set_option maxRecDepth 100000
attribute [local irreducible] WOps WV WH WSt WNil WPick WGd
section
variable {n : Nat} {x : WS}
end
section
variable {Z : Nat → Prop} {H0 h h' : Heap} {ko kw : Nat} {x : WS} {L L' : List Blk} {kt : Nat} {cs : List Value} {T : TypeId} {b : Blk}
theorem OW.ldv {t : TypeId} {d : TypeDesc} {v : Value} (c : OW Z H0 h ko kw x ((kt, cs, T) :: L)) (hu : Try.prog.underlying t = some d) (h1 : ∀ fs, d ≠ .struct fs) (h2 : ∀ n e, d ≠ .array n e) (o : Nat) (hv : cs[o]? = some v) : aLoad Try.prog h t (pt kt o) = some v := by rw [c.ld hu h1 h2 o, hv]
theorem OW.ldI {v : Value} (c : OW Z H0 h ko kw x ((kt, cs, T) :: L)) (o : Nat) (hv : cs[o]? = some v) : aLoad Try.prog h 3 (pt kt o) = some v := c.ldv Try.underlying3 (by simp) (by simp) o hv
end
end Go.Proofs.Ytanknjpcgceccaa

namespace Go.Proofs.Ytanknjpcgceccaa
open Go Go.AM
set_option linter.unusedSimpArgs false
set_option maxRecDepth 100000
attribute [local irreducible] WOps WV WH WSt WNil WPick WGd
section
variable {k off : Nat}
theorem faQ0 {k off : Nat} : aFieldAddr Try.prog 42 (.pointer (some ⟨k, off, none⟩)) 0 = some (.pointer (some ⟨k, off, none⟩)) := by kernel_rfl
theorem faQ1 {k off : Nat} : aFieldAddr Try.prog 42 (.pointer (some ⟨k, off, none⟩)) 1 = some (.pointer (some ⟨k, off + 1, none⟩)) := by kernel_rfl
theorem faQ2 {k off : Nat} : aFieldAddr Try.prog 42 (.pointer (some ⟨k, off, none⟩)) 2 = some (.pointer (some ⟨k, off + 16, none⟩)) := by kernel_rfl
theorem faQ3 {k off : Nat} : aFieldAddr Try.prog 42 (.pointer (some ⟨k, off, none⟩)) 3 = some (.pointer (some ⟨k, off + 31, none⟩)) := by kernel_rfl
theorem faQ4 {k off : Nat} : aFieldAddr Try.prog 42 (.pointer (some ⟨k, off, none⟩)) 4 = some (.pointer (some ⟨k, off + 37, none⟩)) := by kernel_rfl
theorem faQ5 {k off : Nat} : aFieldAddr Try.prog 42 (.pointer (some ⟨k, off, none⟩)) 5 = some (.pointer (some ⟨k, off + 43, none⟩)) := by kernel_rfl
theorem faQ6 {k off : Nat} : aFieldAddr Try.prog 42 (.pointer (some ⟨k, off, none⟩)) 6 = some (.pointer (some ⟨k, off + 58, none⟩)) := by kernel_rfl
theorem faQ7 {k off : Nat} : aFieldAddr Try.prog 42 (.pointer (some ⟨k, off, none⟩)) 7 = some (.pointer (some ⟨k, off + 73, none⟩)) := by kernel_rfl
theorem faQ8 {k off : Nat} : aFieldAddr Try.prog 42 (.pointer (some ⟨k, off, none⟩)) 8 = some (.pointer (some ⟨k, off + 74, none⟩)) := by kernel_rfl
theorem faQ9 {k off : Nat} : aFieldAddr Try.prog 42 (.pointer (some ⟨k, off, none⟩)) 9 = some (.pointer (some ⟨k, off + 75, none⟩)) := by kernel_rfl
theorem faQ10 {k off : Nat} : aFieldAddr Try.prog 42 (.pointer (some ⟨k, off, none⟩)) 10 = some (.pointer (some ⟨k, off + 76, none⟩)) := by kernel_rfl
theorem faQ11 {k off : Nat} : aFieldAddr Try.prog 42 (.pointer (some ⟨k, off, none⟩)) 11 = some (.pointer (some ⟨k, off + 77, none⟩)) := by kernel_rfl
theorem faQ12 {k off : Nat} : aFieldAddr Try.prog 42 (.pointer (some ⟨k, off, none⟩)) 12 = some (.pointer (some ⟨k, off + 78, none⟩)) := by kernel_rfl
theorem faQ13 {k off : Nat} : aFieldAddr Try.prog 42 (.pointer (some ⟨k, off, none⟩)) 13 = some (.pointer (some ⟨k, off + 79, none⟩)) := by kernel_rfl
theorem faQ14 {k off : Nat} : aFieldAddr Try.prog 42 (.pointer (some ⟨k, off, none⟩)) 14 = some (.pointer (some ⟨k, off + 80, none⟩)) := by kernel_rfl
theorem faQ15 {k off : Nat} : aFieldAddr Try.prog 42 (.pointer (some ⟨k, off, none⟩)) 15 = some (.pointer (some ⟨k, off + 81, none⟩)) := by kernel_rfl
theorem faQ16 {k off : Nat} : aFieldAddr Try.prog 42 (.pointer (some ⟨k, off, none⟩)) 16 = some (.pointer (some ⟨k, off + 82, none⟩)) := by kernel_rfl
theorem faQ17 {k off : Nat} : aFieldAddr Try.prog 42 (.pointer (some ⟨k, off, none⟩)) 17 = some (.pointer (some ⟨k, off + 83, none⟩)) := by kernel_rfl
theorem faQ18 {k off : Nat} : aFieldAddr Try.prog 42 (.pointer (some ⟨k, off, none⟩)) 18 = some (.pointer (some ⟨k, off + 84, none⟩)) := by kernel_rfl
theorem faQ19 {k off : Nat} : aFieldAddr Try.prog 42 (.pointer (some ⟨k, off, none⟩)) 19 = some (.pointer (some ⟨k, off + 85, none⟩)) := by kernel_rfl
theorem faQ20 {k off : Nat} : aFieldAddr Try.prog 42 (.pointer (some ⟨k, off, none⟩)) 20 = some (.pointer (some ⟨k, off + 86, none⟩)) := by kernel_rfl
theorem faQ21 {k off : Nat} : aFieldAddr Try.prog 42 (.pointer (some ⟨k, off, none⟩)) 21 = some (.pointer (some ⟨k, off + 87, none⟩)) := by kernel_rfl
end
def z32 : Value := .int .u32 0
def z64 : Value := .int .u64 0
def zI : Value := .int .i64 0
def attrZ : List Value := [zI, zI, zI, z32, z32, z64, z64, z64, z32, z32, z32, z32, z32, z32]
def postZ : List Value := .bool false :: attrZ
def wccZ : List Value := [.bool false, z64, z32, z32, z32, z32]
def resZ : List Value := [zI] ++ postZ ++ postZ ++ wccZ ++ wccZ ++ postZ ++ postZ ++ [.bool false, strZ, z32, strZ, z32, .bool false, .slice none 0 0, zI, z64, z64, .slice none 0 0, z64, z64, z64, z64]
abbrev TRes : TypeId := 42
def sZ : SA := ⟨false, false, false, false, 0, 0, 0, 0, 0, 0, 0, 0, 0, 0⟩
def aZ : AR := ⟨⟨#[]⟩, ⟨#[]⟩, ⟨#[]⟩, ⟨#[]⟩, ⟨#[]⟩, sZ, false, 0, 0, 0, 0, 0, 0, 0, 0, .slice none 0 0, [], 0, 0, 0, 0, 0, 0, 0⟩
theorem u0 : u32r 0 := ⟨by decide, by decide⟩
def aK : AR := { aZ with file := ⟨#[97, 98, 99, 100]⟩, access := 63 }
theorem aK_ok : aK.OK := AR.WF.ok ⟨⟨u0, u0, u0, u0, u0, u0⟩, u0, u0, ⟨by decide, by decide⟩, u0, u0, u0, u0, u0, ⟨_, _, _, rfl⟩, ⟨⟨#[]⟩, rfl⟩⟩ (by decide)
theorem bK : aBuild Try.prog 30 [(0, .string ⟨#[97, 98, 99, 100]⟩), (8, .int .u32 63)] = some (.agg aK.cells.toArray) := by kernel_rfl
def kB : List Value := [0, 0, 0, 4, 97, 98, 99, 100, 0, 0, 0, 63].map (Value.int .u8)
theorem kW : wrArgs 4 aK = (kB, 0) := by kernel_rfl
theorem kS : strS kB = ⟨#[0, 0, 0, 4, 97, 98, 99, 100, 0, 0, 0, 63]⟩ := by kernel_rfl
theorem ext0 {a b : Value} : aExtract (.tuple #[a, b]) 0 = some a := (rfl)
theorem ext1 {a b : Value} : aExtract (.tuple #[a, b]) 1 = some b := (rfl)
theorem known_am (h : Heap) : Cl Try.prog 8 [] h fun v h' => v = .bool true ∧ Same h h' noS := by
  refine Cl.enter Try.func8 rfl _ Try.ntmps8 (by simp) ?_
  intro env hl ha
  clear ha
  repeat (first | (with_reducible refine Wp.st ?_; simp only [wS]) | with_reducible refine Wp.drawS (by decide +kernel) ?_ | simp (disch := (first | (simp only [List.length_set, hl]; omega) | omega | rfl)) only [walkA, walkB, bne_self_eq_false, beq_self_eq_true, Option.map_some, Option.map_none, reduceIte, decide_true, decide_false, Int.reduceLT, Int.reduceLE, Int.reduceMul, Int.reduceAdd, Int.reduceSub, bK])
  refine (writeArgs_am 4 aK aK_ok h (.inl ⟨rfl, rfl⟩)).mono ?_
  intro v h2 q
  obtain ⟨bv, e, ob, sm, _, _⟩ := q
  rw [kW] at e ob
  rw [e]
  have cv := conv_row ob.row ⟨_, rfl⟩
  rw [kS] at cv
  repeat (first | (with_reducible refine Wp.st ?_; simp only [wS]) | with_reducible refine Wp.drawS (by decide +kernel) ?_ | simp (disch := (first | (simp only [List.length_set, hl]; omega) | omega | rfl)) only [walkA, walkB, bne_self_eq_false, beq_self_eq_true, Option.map_some, Option.map_none, reduceIte, decide_true, decide_false, Int.reduceLT, Int.reduceLE, Int.reduceMul, Int.reduceAdd, Int.reduceSub, cv, bin_str, ext0, ext1])
  simp (disch := (first | (simp only [List.length_set, hl]; omega) | omega | rfl)) only [aRes_one Try.results8, sL]
  exact ⟨by trivial, sm⟩
end Go.Proofs.Ytanknjpcgceccaa

namespace Go.Proofs.Ytanknjpcgceccaa
open Go Go.AM
set_option linter.unusedSimpArgs false
set_option maxRecDepth 100000
attribute [local irreducible] WOps WV WH WSt WNil WPick WGd
theorem bytes_beq (a b : ByteArray) : (a == b) = (a.data.toList == b.data.toList) := by
  have : (a == b) = (a.data == b.data) := rfl
  rw [this, Bool.eq_iff_iff]
  simp only [beq_iff_eq]
  exact ⟨fun e => by rw [e], fun e => Array.toList_inj.1 e⟩
theorem eq_str (n : Nat) {a b : ByteArray} : aEqF (n + 1) Try.prog 9 (.string a) (.string b) = some (a.data.toList == b.data.toList) := by
  rw [← bytes_beq]
  simp [aEqF, Try.underlying9]
structure AT where
  type : Int
  mode : Int
  nlink : Int
  uid : Int
  gid : Int
  size : Int
  used : Int
  fileid : Int
  a1 : Int
  a2 : Int
  m1 : Int
  m2 : Int
  c1 : Int
  c2 : Int
def AT.cells (x : AT) : List Value := [.int .i64 x.type, .int .i64 x.mode, .int .i64 x.nlink, .int .u32 x.uid, .int .u32 x.gid, .int .u64 x.size, .int .u64 x.used, .int .u64 x.fileid, .int .u32 x.a1, .int .u32 x.a2, .int .u32 x.m1, .int .u32 x.m2, .int .u32 x.c1, .int .u32 x.c2]
def AT.eq (x y : AT) : Bool := ((x.type == y.type) && ((x.mode == y.mode) && ((x.nlink == y.nlink) && ((x.uid == y.uid) && ((x.gid == y.gid) && ((x.size == y.size) && ((x.used == y.used) && ((x.fileid == y.fileid) && (eqT x.a1 x.a2 y.a1 y.a2 && (eqT x.m1 x.m2 y.m1 y.m2 && (eqT x.c1 x.c2 y.c1 y.c2 && true)))))))))))
theorem st_AT : Try.prog.stoodInHeld 35 = false := by kernel_rfl
theorem eq_AT (n : Nat) (x y : AT) : aEqF (n + 3) Try.prog 35 (.agg x.cells.toArray) (.agg y.cells.toArray) = some (x.eq y) :=
  aEqF_struct Try.underlying35 st_AT (eqFs_step (by decide) rfl rfl rfl (eqFs_step (by decide) rfl rfl rfl (eqFs_step (by decide) rfl rfl rfl (eqFs_step (by decide) rfl rfl rfl (eqFs_step (by decide) rfl rfl rfl (eqFs_step (by decide) rfl rfl rfl (eqFs_step (by decide) rfl rfl rfl (eqFs_step (by decide) rfl rfl rfl (eqFs_step (by decide) rfl rfl (eq_time _ _ _ _ _) (eqFs_step (by decide) rfl rfl (eq_time _ _ _ _ _) (eqFs_step (by decide) rfl rfl (eq_time _ _ _ _ _) rfl)))))))))))
structure PO where
  has : Bool
  att : AT
def PO.cells (x : PO) : List Value := [.bool x.has] ++ x.att.cells
def PO.eq (x y : PO) : Bool := ((x.has == y.has) && (x.att.eq y.att && true))
theorem st_PO : Try.prog.stoodInHeld 37 = false := by kernel_rfl
theorem gd_PO : Try.prog.eqGuardType Try.prog.depth 37 = false := by kernel_rfl
theorem eq_PO (n : Nat) (x y : PO) : aEqF (n + 4) Try.prog 37 (.agg x.cells.toArray) (.agg y.cells.toArray) = some (x.eq y) :=
  aEqF_struct Try.underlying37 st_PO (eqFs_step (by decide) rfl rfl rfl (eqFs_step (by decide) rfl rfl (eq_AT _ _ _) rfl))
theorem bin_PO {xo yo : Operand} {x y : PO} : aBin Try.prog .eql 37 xo yo (.agg x.cells.toArray) (.agg y.cells.toArray) = some (.bool (x.eq y)) := (bin_struct gd_PO (eq_PO 4 x y)).1
theorem bin_PO_ne {xo yo : Operand} {x y : PO} : aBin Try.prog .neq 37 xo yo (.agg x.cells.toArray) (.agg y.cells.toArray) = some (.bool (!(x.eq y))) := (bin_struct gd_PO (eq_PO 4 x y)).2
structure WC where
  has : Bool
  size : Int
  m1 : Int
  m2 : Int
  c1 : Int
  c2 : Int
def WC.cells (x : WC) : List Value := [.bool x.has, .int .u64 x.size, .int .u32 x.m1, .int .u32 x.m2, .int .u32 x.c1, .int .u32 x.c2]
def WC.eq (x y : WC) : Bool := ((x.has == y.has) && ((x.size == y.size) && (eqT x.m1 x.m2 y.m1 y.m2 && (eqT x.c1 x.c2 y.c1 y.c2 && true))))
theorem st_WC : Try.prog.stoodInHeld 39 = false := by kernel_rfl
theorem gd_WC : Try.prog.eqGuardType Try.prog.depth 39 = false := by kernel_rfl
theorem eq_WC (n : Nat) (x y : WC) : aEqF (n + 3) Try.prog 39 (.agg x.cells.toArray) (.agg y.cells.toArray) = some (x.eq y) :=
  aEqF_struct Try.underlying39 st_WC (eqFs_step (by decide) rfl rfl rfl (eqFs_step (by decide) rfl rfl rfl (eqFs_step (by decide) rfl rfl (eq_time _ _ _ _ _) (eqFs_step (by decide) rfl rfl (eq_time _ _ _ _ _) rfl))))
theorem bin_WC {xo yo : Operand} {x y : WC} : aBin Try.prog .eql 39 xo yo (.agg x.cells.toArray) (.agg y.cells.toArray) = some (.bool (x.eq y)) := (bin_struct gd_WC (eq_WC 5 x y)).1
theorem bin_WC_ne {xo yo : Operand} {x y : WC} : aBin Try.prog .neq 39 xo yo (.agg x.cells.toArray) (.agg y.cells.toArray) = some (.bool (!(x.eq y))) := (bin_struct gd_WC (eq_WC 5 x y)).2
structure EN where
  fileid : Int
  name : ByteArray
  cookie : Int
  attr : PO
  hasHandle : Bool
  handle : ByteArray
def EN.cells (x : EN) : List Value := [.int .u64 x.fileid, .string x.name, .int .u64 x.cookie] ++ x.attr.cells ++ [.bool x.hasHandle, .string x.handle]
def EN.eq (x y : EN) : Bool := ((x.fileid == y.fileid) && ((x.name.data.toList == y.name.data.toList) && ((x.cookie == y.cookie) && (x.attr.eq y.attr && ((x.hasHandle == y.hasHandle) && ((x.handle.data.toList == y.handle.data.toList) && true))))))
theorem st_EN : Try.prog.stoodInHeld 105 = false := by kernel_rfl
theorem gd_EN : Try.prog.eqGuardType Try.prog.depth 105 = false := by kernel_rfl
theorem eq_EN (n : Nat) (x y : EN) : aEqF (n + 5) Try.prog 105 (.agg x.cells.toArray) (.agg y.cells.toArray) = some (x.eq y) :=
  aEqF_struct Try.underlying105 st_EN (eqFs_step (by decide) rfl rfl rfl (eqFs_step (by decide) rfl rfl (eq_str _) (eqFs_step (by decide) rfl rfl rfl (eqFs_step (by decide) rfl rfl (eq_PO _ _ _) (eqFs_step (by decide) rfl rfl rfl (eqFs_step (by decide) rfl rfl (eq_str _) rfl))))))
theorem bin_EN_ne {xo yo : Operand} {x y : EN} : aBin Try.prog .neq 105 xo yo (.agg x.cells.toArray) (.agg y.cells.toArray) = some (.bool (!(x.eq y))) := (bin_struct gd_EN (eq_EN 3 x y)).2
structure RR where
  status : Int
  obj : PO
  dir : PO
  before : WC
  toBefore : WC
  after : PO
  toAfter : PO
  hasHandle : Bool
  handle : ByteArray
  access : Int
  path : ByteArray
  count : Int
  eof : Bool
  dv : Value
  data : List Value
  committed : Int
  verf : Int
  cookieVerf : Int
  ev : Value
  ents : List EN
  bytes : Int
  freeBytes : Int
  files : Int
  freeFiles : Int
def RR.cells (x : RR) : List Value := [.int .i64 x.status] ++ x.obj.cells ++ x.dir.cells ++ x.before.cells ++ x.toBefore.cells ++ x.after.cells ++ x.toAfter.cells ++ [.bool x.hasHandle, .string x.handle, .int .u32 x.access, .string x.path, .int .u32 x.count, .bool x.eof, x.dv, .int .i64 x.committed, .int .u64 x.verf, .int .u64 x.cookieVerf, x.ev, .int .u64 x.bytes, .int .u64 x.freeBytes, .int .u64 x.files, .int .u64 x.freeFiles]
theorem AT.one (x : AT) : x.cells.all Value.oneCell' = true := by simp [AT.cells, Value.oneCell']
theorem PO.one (x : PO) : x.cells.all Value.oneCell' = true := by
  have := x.att.one
  simp only [PO.cells, List.all_append, this]
  rfl
theorem WC.one (x : WC) : x.cells.all Value.oneCell' = true := by simp [WC.cells, Value.oneCell']
theorem EN.one (x : EN) : x.cells.all Value.oneCell' = true := by
  have := x.attr.one
  simp only [EN.cells, List.all_append, this]
  rfl
theorem AT.len (x : AT) : x.cells.length = 14 := rfl
theorem PO.len (x : PO) : x.cells.length = 15 := rfl
theorem WC.len (x : WC) : x.cells.length = 6 := rfl
theorem EN.len (x : EN) : x.cells.length = 20 := rfl
theorem RR.len (x : RR) : x.cells.length = 88 := rfl
theorem RR.one (x : RR) (h1 : ∃ a n c, x.dv = .slice a n c) (h2 : ∃ a n c, x.ev = .slice a n c) : x.cells.all Value.oneCell' = true := by
  obtain ⟨a, n, c, e⟩ := h1
  obtain ⟨a', n', c', e'⟩ := h2
  have p1 := x.obj.one; have p2 := x.dir.one; have p3 := x.before.one; have p4 := x.toBefore.one; have p5 := x.after.one; have p6 := x.toAfter.one
  simp only [RR.cells, List.all_append, p1, p2, p3, p4, p5, p6, e, e']
  rfl
theorem iPO : Try.prog.info? 37 = some Try.t37 := by kernel_rfl
theorem iWC : Try.prog.info? 39 = some Try.t39 := by kernel_rfl
theorem iEN : Try.prog.info? 105 = some Try.t105 := by kernel_rfl
theorem iRes : Try.prog.info? 42 = some Try.t42 := by kernel_rfl
section
variable {h : Heap} {k : Nat} {x : RR} {T : TypeId}
theorem ldRR (hg : h.get k = some (.cells x.cells T false)) : aLoad Try.prog h 33 (pt k 0) = some (.int .i64 x.status) ∧
    aLoad Try.prog h 37 (pt k 1) = some (.agg x.obj.cells.toArray) ∧
    aLoad Try.prog h 37 (pt k 16) = some (.agg x.dir.cells.toArray) ∧
    aLoad Try.prog h 39 (pt k 31) = some (.agg x.before.cells.toArray) ∧
    aLoad Try.prog h 39 (pt k 37) = some (.agg x.toBefore.cells.toArray) ∧
    aLoad Try.prog h 37 (pt k 43) = some (.agg x.after.cells.toArray) ∧
    aLoad Try.prog h 37 (pt k 58) = some (.agg x.toAfter.cells.toArray) ∧
    aLoad Try.prog h 4 (pt k 73) = some (.bool x.hasHandle) ∧
    aLoad Try.prog h 9 (pt k 74) = some (.string x.handle) ∧
    aLoad Try.prog h 23 (pt k 75) = some (.int .u32 x.access) ∧
    aLoad Try.prog h 9 (pt k 76) = some (.string x.path) ∧
    aLoad Try.prog h 23 (pt k 77) = some (.int .u32 x.count) ∧
    aLoad Try.prog h 4 (pt k 78) = some (.bool x.eof) ∧
    aLoad Try.prog h 22 (pt k 79) = some (x.dv) ∧
    aLoad Try.prog h 3 (pt k 80) = some (.int .i64 x.committed) ∧
    aLoad Try.prog h 24 (pt k 81) = some (.int .u64 x.verf) ∧
    aLoad Try.prog h 24 (pt k 82) = some (.int .u64 x.cookieVerf) ∧
    aLoad Try.prog h 40 (pt k 83) = some (x.ev) ∧
    aLoad Try.prog h 24 (pt k 84) = some (.int .u64 x.bytes) ∧
    aLoad Try.prog h 24 (pt k 85) = some (.int .u64 x.freeBytes) ∧
    aLoad Try.prog h 24 (pt k 86) = some (.int .u64 x.files) ∧
    aLoad Try.prog h 24 (pt k 87) = some (.int .u64 x.freeFiles) :=
  ⟨ldCell hg Try.underlying33 (by simp) (by simp) rfl,
  ldAgg hg Try.underlying37 iPO (by show 1 + 15 ≤ _; rw [x.len]; decide) rfl,
  ldAgg hg Try.underlying37 iPO (by show 16 + 15 ≤ _; rw [x.len]; decide) rfl,
  ldAgg hg Try.underlying39 iWC (by show 31 + 6 ≤ _; rw [x.len]; decide) rfl,
  ldAgg hg Try.underlying39 iWC (by show 37 + 6 ≤ _; rw [x.len]; decide) rfl,
  ldAgg hg Try.underlying37 iPO (by show 43 + 15 ≤ _; rw [x.len]; decide) rfl,
  ldAgg hg Try.underlying37 iPO (by show 58 + 15 ≤ _; rw [x.len]; decide) rfl,
  ldCell hg Try.underlying4 (by simp) (by simp) rfl,
  ldCell hg Try.underlying9 (by simp) (by simp) rfl,
  ldCell hg Try.underlying23 (by simp) (by simp) rfl,
  ldCell hg Try.underlying9 (by simp) (by simp) rfl,
  ldCell hg Try.underlying23 (by simp) (by simp) rfl,
  ldCell hg Try.underlying4 (by simp) (by simp) rfl,
  ldCell hg Try.underlying22 (by simp) (by simp) rfl,
  ldCell hg Try.underlying3 (by simp) (by simp) rfl,
  ldCell hg Try.underlying24 (by simp) (by simp) rfl,
  ldCell hg Try.underlying24 (by simp) (by simp) rfl,
  ldCell hg Try.underlying40 (by simp) (by simp) rfl,
  ldCell hg Try.underlying24 (by simp) (by simp) rfl,
  ldCell hg Try.underlying24 (by simp) (by simp) rfl,
  ldCell hg Try.underlying24 (by simp) (by simp) rfl,
  ldCell hg Try.underlying24 (by simp) (by simp) rfl⟩
end
end Go.Proofs.Ytanknjpcgceccaa

namespace Go.Proofs.Ytanknjpcgceccaa
open Go Go.AM
set_option linter.unusedSimpArgs false
set_option maxRecDepth 100000
attribute [local irreducible] WOps WV WH WSt WNil WPick WGd
def enEq : List EN → List EN → Bool
  | [], [] => true
  | x :: l, y :: r => x.eq y && enEq l r
  | _, _ => false
theorem enEq_len : ∀ {xs ys : List EN}, xs.length ≠ ys.length → enEq xs ys = false
  | [], [], h => absurd rfl h
  | [], _ :: _, _ => rfl
  | _ :: _, [], _ => rfl
  | x :: l, y :: r, h => by
    have := enEq_len (xs := l) (ys := r) (by simpa using h)
    simp [enEq, this]
theorem enEq_step {xs ys : List EN} {j : Nat} (h1 : j < xs.length) (h2 : j < ys.length) : enEq (xs.drop j) (ys.drop j) = (xs[j].eq ys[j] && enEq (xs.drop (j + 1)) (ys.drop (j + 1))) := by
  rw [List.drop_eq_getElem_cons h1, List.drop_eq_getElem_cons h2]
  rfl
theorem row_en {h : Heap} {v : Value} {xs : List EN} (r : RowS h 20 v (xs.map EN.cells)) {j : Nat} (hj : j < xs.length) :
    ∃ p, aIndexAddr Try.prog 40 v (.int .i64 j) = some p ∧ aLoad Try.prog h 105 p = some (.agg (xs[j]).cells.toArray) := by
  obtain ⟨k, o, x1, x2, _⟩ := r.index (P := Try.prog) Try.underlying40 iEN rfl (j := j) (kd := .i64) (by simpa using hj)
  refine ⟨_, x1, ?_⟩
  rw [aLoad_struct Try.underlying105 iEN]
  have : (Try.t105).size = 20 := rfl
  rw [this, x2, List.getElem_map]
  rfl
set_option maxHeartbeats 1000000 in
theorem equalE_am (v1 v2 : Value) (us bs : List EN) (h : Heap) (r1 : RowS h 20 v1 (us.map EN.cells)) (r2 : RowS h 20 v2 (bs.map EN.cells)) (hm : us.length ≤ 9223372036854775807) :
    Cl Try.prog 47 [v1, v2] h fun v h' => v = .bool (enEq us bs) ∧ h' = h := by
  refine Cl.enter Try.func47 rfl _ Try.ntmps47 (by simp) ?_
  intro env hl ha
  have h0 : sl env 0 = v1 := ha 0 (by simp)
  have h1 : sl env 1 = v2 := ha 1 (by simp)
  clear ha
  have l1 := fun h0 => r1.builtin (P := Try.prog) Try.underlying40 h0
  have l2 := fun h0 => r2.builtin (P := Try.prog) Try.underlying40 h0
  simp only [List.length_map] at l1 l2
  by_cases hn : us.length = bs.length
  · have d1 : ((us.length : Int) != bs.length) = false := by rw [hn, bne_self_eq_false]
    repeat (first | (with_reducible refine Wp.st ?_; simp only [wS]) | with_reducible refine Wp.drawS (by decide +kernel) ?_ | simp (disch := (first | (simp only [List.length_set, hl]; omega) | omega | rfl)) only [walkA, walkB, bne_self_eq_false, beq_self_eq_true, Option.map_some, Option.map_none, reduceIte, decide_true, decide_false, Int.reduceLT, Int.reduceLE, Int.reduceMul, Int.reduceAdd, Int.reduceSub, h0, h1, l1, l2, d1])
    refine Wp.cond_false (by first | ((simp (disch := (first | (simp only [List.length_set, hl]; omega) | omega | rfl)) only [sL, aEval_tmp]); done) | ((simp (disch := (first | (simp only [List.length_set, hl]; omega) | omega | rfl)) only [sL, aEval_tmp]); rfl)) ?_
    repeat (first | (with_reducible refine Wp.st ?_; simp only [wS]) | with_reducible refine Wp.drawS (by decide +kernel) ?_ | simp (disch := (first | (simp only [List.length_set, hl]; omega) | omega | rfl)) only [walkA, walkB, bne_self_eq_false, beq_self_eq_true, Option.map_some, Option.map_none, reduceIte, decide_true, decide_false, Int.reduceLT, Int.reduceLE, Int.reduceMul, Int.reduceAdd, Int.reduceSub, h0, h1, l1])
    refine Wp.loop (fun m e hh => ∃ j : Nat, j + m = us.length ∧ e.length = 26 ∧ sl e 0 = v1 ∧ sl e 1 = v2 ∧ sl e 12 = .int .i64 us.length ∧ sl e 13 = .int .i64 j ∧ hh = h ∧ enEq us bs = enEq (us.drop j) (bs.drop j)) us.length
      ⟨0, by omega, by simp [hl], by (simp (disch := (first | (simp only [List.length_set, hl]; omega) | omega | rfl)) only [sL, h0]), by (simp (disch := (first | (simp only [List.length_set, hl]; omega) | omega | rfl)) only [sL, h1]), by (simp (disch := (first | (simp only [List.length_set, hl]; omega) | omega | rfl)) only [sL]), by (simp (disch := (first | (simp only [List.length_set, hl]; omega) | omega | rfl)) only [sL]); rfl, rfl, by simp⟩ ?_
    clear h0 h1 hl env
    rintro m e hh ⟨j, hj, hl, e0, e1, e12, e13, eh, et⟩
    subst eh
    repeat (first | (with_reducible refine Wp.st ?_; simp only [wS]) | with_reducible refine Wp.drawS (by decide +kernel) ?_ | simp (disch := (first | (simp only [List.length_set, hl]; omega) | omega | rfl)) only [walkA, walkB, bne_self_eq_false, beq_self_eq_true, Option.map_some, Option.map_none, reduceIte, decide_true, decide_false, Int.reduceLT, Int.reduceLE, Int.reduceMul, Int.reduceAdd, Int.reduceSub, e0, e1, e12, e13])
    by_cases hlt : j < us.length
    · refine Wp.cond_true (by (simp (disch := (first | (simp only [List.length_set, hl]; omega) | omega | rfl)) only [sL, aEval_tmp]); simpa using hlt) ?_
      have hlt2 : j < bs.length := by omega
      obtain ⟨pa, x1, x2⟩ := row_en r1 hlt
      obtain ⟨pb, y1, y2⟩ := row_en r2 hlt2
      have st := enEq_step hlt hlt2
      cases hab : us[j].eq bs[j] with
      | true =>
        rw [hab, Bool.true_and] at st
        repeat (first | (with_reducible refine Wp.st ?_; simp only [wS]) | with_reducible refine Wp.drawS (by decide +kernel) ?_ | simp (disch := (first | (simp only [List.length_set, hl]; omega) | omega | rfl)) only [walkA, walkB, bne_self_eq_false, beq_self_eq_true, Option.map_some, Option.map_none, reduceIte, decide_true, decide_false, Int.reduceLT, Int.reduceLE, Int.reduceMul, Int.reduceAdd, Int.reduceSub, e0, e1, e12, e13, x1, x2, y1, y2, bin_EN_ne, hab, Bool.not_true])
        refine Wp.cond_false (by first | ((simp (disch := (first | (simp only [List.length_set, hl]; omega) | omega | rfl)) only [sL, aEval_tmp]); done) | ((simp (disch := (first | (simp only [List.length_set, hl]; omega) | omega | rfl)) only [sL, aEval_tmp]); rfl)) ?_
        repeat (first | (with_reducible refine Wp.st ?_; simp only [wS]) | with_reducible refine Wp.drawS (by decide +kernel) ?_ | simp (disch := (first | (simp only [List.length_set, hl]; omega) | omega | rfl)) only [walkA, walkB, bne_self_eq_false, beq_self_eq_true, Option.map_some, Option.map_none, reduceIte, decide_true, decide_false, Int.reduceLT, Int.reduceLE, Int.reduceMul, Int.reduceAdd, Int.reduceSub, e0, e1, e12, e13])
        exact ⟨m - 1, by omega, j + 1, by omega, by simp [hl], by (simp (disch := (first | (simp only [List.length_set, hl]; omega) | omega | rfl)) only [sL, e0]), by (simp (disch := (first | (simp only [List.length_set, hl]; omega) | omega | rfl)) only [sL, e1]), by (simp (disch := (first | (simp only [List.length_set, hl]; omega) | omega | rfl)) only [sL, e12]), by (simp (disch := (first | (simp only [List.length_set, hl]; omega) | omega | rfl)) only [sL, Int.natCast_add]); rfl, by trivial, by rw [et, st]⟩
      | false =>
        rw [hab, Bool.false_and] at st
        repeat (first | (with_reducible refine Wp.st ?_; simp only [wS]) | with_reducible refine Wp.drawS (by decide +kernel) ?_ | simp (disch := (first | (simp only [List.length_set, hl]; omega) | omega | rfl)) only [walkA, walkB, bne_self_eq_false, beq_self_eq_true, Option.map_some, Option.map_none, reduceIte, decide_true, decide_false, Int.reduceLT, Int.reduceLE, Int.reduceMul, Int.reduceAdd, Int.reduceSub, e0, e1, e12, e13, x1, x2, y1, y2, bin_EN_ne, hab, Bool.not_false])
        refine Wp.cond_true (by first | ((simp (disch := (first | (simp only [List.length_set, hl]; omega) | omega | rfl)) only [sL, aEval_tmp]); done) | ((simp (disch := (first | (simp only [List.length_set, hl]; omega) | omega | rfl)) only [sL, aEval_tmp]); rfl)) ?_
        repeat (first | (with_reducible refine Wp.st ?_; simp only [wS]) | with_reducible refine Wp.drawS (by decide +kernel) ?_ | simp (disch := (first | (simp only [List.length_set, hl]; omega) | omega | rfl)) only [walkA, walkB, bne_self_eq_false, beq_self_eq_true, Option.map_some, Option.map_none, reduceIte, decide_true, decide_false, Int.reduceLT, Int.reduceLE, Int.reduceMul, Int.reduceAdd, Int.reduceSub, e0])
        simp (disch := (first | (simp only [List.length_set, hl]; omega) | omega | rfl)) only [aRes_one Try.results47, sL]
        exact ⟨by rw [et, st], trivial⟩
    · refine Wp.cond_false (by (simp (disch := (first | (simp only [List.length_set, hl]; omega) | omega | rfl)) only [sL, aEval_tmp]); simpa using hlt) ?_
      repeat (first | (with_reducible refine Wp.st ?_; simp only [wS]) | with_reducible refine Wp.drawS (by decide +kernel) ?_ | simp (disch := (first | (simp only [List.length_set, hl]; omega) | omega | rfl)) only [walkA, walkB, bne_self_eq_false, beq_self_eq_true, Option.map_some, Option.map_none, reduceIte, decide_true, decide_false, Int.reduceLT, Int.reduceLE, Int.reduceMul, Int.reduceAdd, Int.reduceSub, e0, e1, e12, e13])
      simp (disch := (first | (simp only [List.length_set, hl]; omega) | omega | rfl)) only [aRes_one Try.results47, sL]
      rw [List.drop_eq_nil_of_le (by omega), List.drop_eq_nil_of_le (by omega)] at et
      exact ⟨by rw [et]; rfl, trivial⟩
  · have d1 : ((us.length : Int) != bs.length) = true := by simp only [bne_iff_ne, ne_eq]; omega
    repeat (first | (with_reducible refine Wp.st ?_; simp only [wS]) | with_reducible refine Wp.drawS (by decide +kernel) ?_ | simp (disch := (first | (simp only [List.length_set, hl]; omega) | omega | rfl)) only [walkA, walkB, bne_self_eq_false, beq_self_eq_true, Option.map_some, Option.map_none, reduceIte, decide_true, decide_false, Int.reduceLT, Int.reduceLE, Int.reduceMul, Int.reduceAdd, Int.reduceSub, h0, h1, l1, l2, d1])
    refine Wp.cond_true (by first | ((simp (disch := (first | (simp only [List.length_set, hl]; omega) | omega | rfl)) only [sL, aEval_tmp]); done) | ((simp (disch := (first | (simp only [List.length_set, hl]; omega) | omega | rfl)) only [sL, aEval_tmp]); rfl)) ?_
    repeat (first | (with_reducible refine Wp.st ?_; simp only [wS]) | with_reducible refine Wp.drawS (by decide +kernel) ?_ | simp (disch := (first | (simp only [List.length_set, hl]; omega) | omega | rfl)) only [walkA, walkB, bne_self_eq_false, beq_self_eq_true, Option.map_some, Option.map_none, reduceIte, decide_true, decide_false, Int.reduceLT, Int.reduceLE, Int.reduceMul, Int.reduceAdd, Int.reduceSub, h0])
    simp (disch := (first | (simp only [List.length_set, hl]; omega) | omega | rfl)) only [aRes_one Try.results47, sL]
    exact ⟨by rw [enEq_len hn], trivial⟩
end Go.Proofs.Ytanknjpcgceccaa

namespace Go.Proofs.Ytanknjpcgceccaa
open Go Go.AM
set_option linter.unusedSimpArgs false
set_option maxRecDepth 100000
attribute [local irreducible] WOps WV WH WSt WNil WPick WGd
theorem Wp.fresh {P : Program} {c : Code} {Q : AX → List Value → Heap → Prop} {env : List Value} {h : Heap} (n i j : Nat) {x y : Value} (h1 : env.length = n) (h2 : sl env i = x) (h3 : sl env j = y) (k : ∀ e : List Value, e.length = n → sl e i = x → sl e j = y → Wp P c Q e h) : Wp P c Q env h := k env h1 h2 h3
def RR.eq (a b : RR) : Bool := (a.status == b.status) && a.obj.eq b.obj && a.dir.eq b.dir && a.before.eq b.before && a.toBefore.eq b.toBefore && a.after.eq b.after && a.toAfter.eq b.toAfter && (a.hasHandle == b.hasHandle) && (a.handle.data.toList == b.handle.data.toList) && (a.access == b.access) && (a.path.data.toList == b.path.data.toList) && (a.count == b.count) && (a.eof == b.eof) && ((strS a.data).data.toList == (strS b.data).data.toList) && (a.committed == b.committed) && (a.verf == b.verf) && (a.cookieVerf == b.cookieVerf) && (a.bytes == b.bytes) && (a.freeBytes == b.freeBytes) && (a.files == b.files) && (a.freeFiles == b.freeFiles) && enEq a.ents b.ents
set_option maxHeartbeats 8000000 in
theorem sameResX_am (a b : RR) (h : Heap) (ha : ∃ x n c, a.dv = .slice x n c) (hae : ∃ x n c, a.ev = .slice x n c) (hb : ∃ x n c, b.dv = .slice x n c) (hbe : ∃ x n c, b.ev = .slice x n c) (ra : Row h a.dv a.data) (rb : Row h b.dv b.data) (rea : RowS h 20 a.ev (a.ents.map EN.cells)) (reb : RowS h 20 b.ev (b.ents.map EN.cells)) (ba : isB a.data) (bb : isB b.data) (hm : a.ents.length ≤ 9223372036854775807) :
    Cl Try.prog 17 [.agg a.cells.toArray, .agg b.cells.toArray] h fun v h' => v = .bool (a.eq b) ∧ Same h h' noS := by
  refine Cl.enter Try.func17 rfl _ Try.ntmps17 (by simp) ?_
  intro env hl ha
  have h0 : sl env 0 = .agg a.cells.toArray := ha 0 (by simp)
  have h1 : sl env 1 = .agg b.cells.toArray := ha 1 (by simp)
  clear ha
  have oneA : a.cells.all Value.oneCell' = true := a.one ha hae
  have oneB : b.cells.all Value.oneCell' = true := b.one hb hbe
  have xa : aBox h 42 (.agg a.cells.toArray) = some (pt h.next 0, h.push (.cells a.cells TRes false)) := by simp [aBox, aNew, Value.cells, oneA]
  have xb : aBox (h.push (.cells a.cells TRes false)) 42 (.agg b.cells.toArray) = some (pt (h.push (.cells a.cells TRes false)).next 0, (h.push (.cells a.cells TRes false)).push (.cells b.cells TRes false)) := by simp [aBox, aNew, Value.cells, oneB]
  have sm : Same h ((h.push (.cells a.cells TRes false)).push (.cells b.cells TRes false)) noS := (Same.push _ _ _).trans (Same.push _ _ _) (fun _ x => x) (fun _ _ x => x)
  have ga : ((h.push (.cells a.cells TRes false)).push (.cells b.cells TRes false)).get h.next = some (.cells a.cells TRes false) := Heap.get_push_old Heap.get_push_new
  have gb : ((h.push (.cells a.cells TRes false)).push (.cells b.cells TRes false)).get (h.push (.cells a.cells TRes false)).next = some (.cells b.cells TRes false) := Heap.get_push_new
  generalize hh2 : (h.push (.cells a.cells TRes false)).push (.cells b.cells TRes false) = h2 at xb sm ga gb
  generalize (h.push (.cells a.cells TRes false)).next = kb at xb gb
  generalize h.push (.cells a.cells TRes false) = h1' at xa xb
  generalize h.next = ka at xa ga
  have la := ldRR ga
  have lb := ldRR gb
  replace rea := rea.same sm (fun _ _ _ _ _ x => x)
  replace reb := reb.same sm (fun _ _ _ _ _ x => x)
  replace ra := ra.same sm (fun _ _ _ _ _ x => x)
  replace rb := rb.same sm (fun _ _ _ _ _ x => x)
  clear hh2 ga gb
  have cva := conv_row ra ba
  have cvb := conv_row rb bb
  have la1 := fun h0 => rea.builtin (P := Try.prog) Try.underlying40 h0
  have lb1 := fun h0 => reb.builtin (P := Try.prog) Try.underlying40 h0
  simp only [List.length_map] at la1 lb1
  clear ra rb
  cases e0 : (a.status == b.status)
  · skip
    have n0 : (a.status != b.status) = true := by unfold bne; rw [e0]; rfl
    repeat (first | (with_reducible refine Wp.st ?_; simp only [wS]) | with_reducible refine Wp.drawS (by decide +kernel) ?_ | simp (disch := (first | (simp only [List.length_set, hl]; omega) | omega | rfl)) only [walkA, walkB, bne_self_eq_false, beq_self_eq_true, Option.map_some, Option.map_none, reduceIte, decide_true, decide_false, Int.reduceLT, Int.reduceLE, Int.reduceMul, Int.reduceAdd, Int.reduceSub, List.append_eq, List.cons_append, List.nil_append, h0, h1, xa, xb, la, lb, bin_str_ne, bin_boolN, bin_PO_ne, bin_WC_ne, Bool.not_true, Bool.not_false, faQ0, faQ1, faQ2, faQ3, faQ4, faQ5, faQ6, faQ7, faQ8, faQ9, faQ10, faQ11, faQ12, faQ13, faQ14, faQ15, faQ16, faQ17, faQ18, faQ19, faQ20, faQ21, n0])
    refine Wp.cond_true (by first | ((simp (disch := (first | (simp only [List.length_set, hl]; omega) | omega | rfl)) only [sL, aEval_tmp]); done) | ((simp (disch := (first | (simp only [List.length_set, hl]; omega) | omega | rfl)) only [sL, aEval_tmp]); rfl)) ?_
    repeat (first | (with_reducible refine Wp.st ?_; simp only [wS]) | with_reducible refine Wp.drawS (by decide +kernel) ?_ | simp (disch := (first | (simp only [List.length_set, hl]; omega) | omega | rfl)) only [walkA, walkB, bne_self_eq_false, beq_self_eq_true, Option.map_some, Option.map_none, reduceIte, decide_true, decide_false, Int.reduceLT, Int.reduceLE, Int.reduceMul, Int.reduceAdd, Int.reduceSub])
    simp (disch := (first | (simp only [List.length_set, hl]; omega) | omega | rfl)) only [aRes_one Try.results17, sL]
    exact ⟨by simp [RR.eq, e0], sm⟩
  have n0 : (a.status != b.status) = false := by unfold bne; rw [e0]; rfl
  cases e1 : a.obj.eq b.obj
  · skip
    repeat (first | (with_reducible refine Wp.st ?_; simp only [wS]) | with_reducible refine Wp.drawS (by decide +kernel) ?_ | simp (disch := (first | (simp only [List.length_set, hl]; omega) | omega | rfl)) only [walkA, walkB, bne_self_eq_false, beq_self_eq_true, Option.map_some, Option.map_none, reduceIte, decide_true, decide_false, Int.reduceLT, Int.reduceLE, Int.reduceMul, Int.reduceAdd, Int.reduceSub, List.append_eq, List.cons_append, List.nil_append, h0, h1, xa, xb, la, lb, bin_str_ne, bin_boolN, bin_PO_ne, bin_WC_ne, Bool.not_true, Bool.not_false, faQ0, faQ1, faQ2, faQ3, faQ4, faQ5, faQ6, faQ7, faQ8, faQ9, faQ10, faQ11, faQ12, faQ13, faQ14, faQ15, faQ16, faQ17, faQ18, faQ19, faQ20, faQ21, n0, e1])
    refine Wp.cond_true (by first | ((simp (disch := (first | (simp only [List.length_set, hl]; omega) | omega | rfl)) only [sL, aEval_tmp]); done) | ((simp (disch := (first | (simp only [List.length_set, hl]; omega) | omega | rfl)) only [sL, aEval_tmp]); rfl)) ?_
    repeat (first | (with_reducible refine Wp.st ?_; simp only [wS]) | with_reducible refine Wp.drawS (by decide +kernel) ?_ | simp (disch := (first | (simp only [List.length_set, hl]; omega) | omega | rfl)) only [walkA, walkB, bne_self_eq_false, beq_self_eq_true, Option.map_some, Option.map_none, reduceIte, decide_true, decide_false, Int.reduceLT, Int.reduceLE, Int.reduceMul, Int.reduceAdd, Int.reduceSub])
    simp (disch := (first | (simp only [List.length_set, hl]; omega) | omega | rfl)) only [aRes_one Try.results17, sL]
    exact ⟨by simp [RR.eq, e0, e1], sm⟩
  cases e2 : a.dir.eq b.dir
  · skip
    repeat (first | (with_reducible refine Wp.st ?_; simp only [wS]) | with_reducible refine Wp.drawS (by decide +kernel) ?_ | simp (disch := (first | (simp only [List.length_set, hl]; omega) | omega | rfl)) only [walkA, walkB, bne_self_eq_false, beq_self_eq_true, Option.map_some, Option.map_none, reduceIte, decide_true, decide_false, Int.reduceLT, Int.reduceLE, Int.reduceMul, Int.reduceAdd, Int.reduceSub, List.append_eq, List.cons_append, List.nil_append, h0, h1, xa, xb, la, lb, bin_str_ne, bin_boolN, bin_PO_ne, bin_WC_ne, Bool.not_true, Bool.not_false, faQ0, faQ1, faQ2, faQ3, faQ4, faQ5, faQ6, faQ7, faQ8, faQ9, faQ10, faQ11, faQ12, faQ13, faQ14, faQ15, faQ16, faQ17, faQ18, faQ19, faQ20, faQ21, n0, e1, e2])
    refine Wp.cond_true (by first | ((simp (disch := (first | (simp only [List.length_set, hl]; omega) | omega | rfl)) only [sL, aEval_tmp]); done) | ((simp (disch := (first | (simp only [List.length_set, hl]; omega) | omega | rfl)) only [sL, aEval_tmp]); rfl)) ?_
    repeat (first | (with_reducible refine Wp.st ?_; simp only [wS]) | with_reducible refine Wp.drawS (by decide +kernel) ?_ | simp (disch := (first | (simp only [List.length_set, hl]; omega) | omega | rfl)) only [walkA, walkB, bne_self_eq_false, beq_self_eq_true, Option.map_some, Option.map_none, reduceIte, decide_true, decide_false, Int.reduceLT, Int.reduceLE, Int.reduceMul, Int.reduceAdd, Int.reduceSub])
    simp (disch := (first | (simp only [List.length_set, hl]; omega) | omega | rfl)) only [aRes_one Try.results17, sL]
    exact ⟨by simp [RR.eq, e0, e1, e2], sm⟩
  cases e3 : a.before.eq b.before
  · skip
    repeat (first | (with_reducible refine Wp.st ?_; simp only [wS]) | with_reducible refine Wp.drawS (by decide +kernel) ?_ | simp (disch := (first | (simp only [List.length_set, hl]; omega) | omega | rfl)) only [walkA, walkB, bne_self_eq_false, beq_self_eq_true, Option.map_some, Option.map_none, reduceIte, decide_true, decide_false, Int.reduceLT, Int.reduceLE, Int.reduceMul, Int.reduceAdd, Int.reduceSub, List.append_eq, List.cons_append, List.nil_append, h0, h1, xa, xb, la, lb, bin_str_ne, bin_boolN, bin_PO_ne, bin_WC_ne, Bool.not_true, Bool.not_false, faQ0, faQ1, faQ2, faQ3, faQ4, faQ5, faQ6, faQ7, faQ8, faQ9, faQ10, faQ11, faQ12, faQ13, faQ14, faQ15, faQ16, faQ17, faQ18, faQ19, faQ20, faQ21, n0, e1, e2, e3])
    refine Wp.cond_true (by first | ((simp (disch := (first | (simp only [List.length_set, hl]; omega) | omega | rfl)) only [sL, aEval_tmp]); done) | ((simp (disch := (first | (simp only [List.length_set, hl]; omega) | omega | rfl)) only [sL, aEval_tmp]); rfl)) ?_
    repeat (first | (with_reducible refine Wp.st ?_; simp only [wS]) | with_reducible refine Wp.drawS (by decide +kernel) ?_ | simp (disch := (first | (simp only [List.length_set, hl]; omega) | omega | rfl)) only [walkA, walkB, bne_self_eq_false, beq_self_eq_true, Option.map_some, Option.map_none, reduceIte, decide_true, decide_false, Int.reduceLT, Int.reduceLE, Int.reduceMul, Int.reduceAdd, Int.reduceSub])
    simp (disch := (first | (simp only [List.length_set, hl]; omega) | omega | rfl)) only [aRes_one Try.results17, sL]
    exact ⟨by simp [RR.eq, e0, e1, e2, e3], sm⟩
  cases e4 : a.toBefore.eq b.toBefore
  · skip
    repeat (first | (with_reducible refine Wp.st ?_; simp only [wS]) | with_reducible refine Wp.drawS (by decide +kernel) ?_ | simp (disch := (first | (simp only [List.length_set, hl]; omega) | omega | rfl)) only [walkA, walkB, bne_self_eq_false, beq_self_eq_true, Option.map_some, Option.map_none, reduceIte, decide_true, decide_false, Int.reduceLT, Int.reduceLE, Int.reduceMul, Int.reduceAdd, Int.reduceSub, List.append_eq, List.cons_append, List.nil_append, h0, h1, xa, xb, la, lb, bin_str_ne, bin_boolN, bin_PO_ne, bin_WC_ne, Bool.not_true, Bool.not_false, faQ0, faQ1, faQ2, faQ3, faQ4, faQ5, faQ6, faQ7, faQ8, faQ9, faQ10, faQ11, faQ12, faQ13, faQ14, faQ15, faQ16, faQ17, faQ18, faQ19, faQ20, faQ21, n0, e1, e2, e3, e4])
    refine Wp.cond_true (by first | ((simp (disch := (first | (simp only [List.length_set, hl]; omega) | omega | rfl)) only [sL, aEval_tmp]); done) | ((simp (disch := (first | (simp only [List.length_set, hl]; omega) | omega | rfl)) only [sL, aEval_tmp]); rfl)) ?_
    repeat (first | (with_reducible refine Wp.st ?_; simp only [wS]) | with_reducible refine Wp.drawS (by decide +kernel) ?_ | simp (disch := (first | (simp only [List.length_set, hl]; omega) | omega | rfl)) only [walkA, walkB, bne_self_eq_false, beq_self_eq_true, Option.map_some, Option.map_none, reduceIte, decide_true, decide_false, Int.reduceLT, Int.reduceLE, Int.reduceMul, Int.reduceAdd, Int.reduceSub])
    simp (disch := (first | (simp only [List.length_set, hl]; omega) | omega | rfl)) only [aRes_one Try.results17, sL]
    exact ⟨by simp [RR.eq, e0, e1, e2, e3, e4], sm⟩
  cases e5 : a.after.eq b.after
  · skip
    repeat (first | (with_reducible refine Wp.st ?_; simp only [wS]) | with_reducible refine Wp.drawS (by decide +kernel) ?_ | simp (disch := (first | (simp only [List.length_set, hl]; omega) | omega | rfl)) only [walkA, walkB, bne_self_eq_false, beq_self_eq_true, Option.map_some, Option.map_none, reduceIte, decide_true, decide_false, Int.reduceLT, Int.reduceLE, Int.reduceMul, Int.reduceAdd, Int.reduceSub, List.append_eq, List.cons_append, List.nil_append, h0, h1, xa, xb, la, lb, bin_str_ne, bin_boolN, bin_PO_ne, bin_WC_ne, Bool.not_true, Bool.not_false, faQ0, faQ1, faQ2, faQ3, faQ4, faQ5, faQ6, faQ7, faQ8, faQ9, faQ10, faQ11, faQ12, faQ13, faQ14, faQ15, faQ16, faQ17, faQ18, faQ19, faQ20, faQ21, n0, e1, e2, e3, e4, e5])
    refine Wp.cond_true (by first | ((simp (disch := (first | (simp only [List.length_set, hl]; omega) | omega | rfl)) only [sL, aEval_tmp]); done) | ((simp (disch := (first | (simp only [List.length_set, hl]; omega) | omega | rfl)) only [sL, aEval_tmp]); rfl)) ?_
    repeat (first | (with_reducible refine Wp.st ?_; simp only [wS]) | with_reducible refine Wp.drawS (by decide +kernel) ?_ | simp (disch := (first | (simp only [List.length_set, hl]; omega) | omega | rfl)) only [walkA, walkB, bne_self_eq_false, beq_self_eq_true, Option.map_some, Option.map_none, reduceIte, decide_true, decide_false, Int.reduceLT, Int.reduceLE, Int.reduceMul, Int.reduceAdd, Int.reduceSub])
    simp (disch := (first | (simp only [List.length_set, hl]; omega) | omega | rfl)) only [aRes_one Try.results17, sL]
    exact ⟨by simp [RR.eq, e0, e1, e2, e3, e4, e5], sm⟩
  cases e6 : a.toAfter.eq b.toAfter
  · skip
    repeat (first | (with_reducible refine Wp.st ?_; simp only [wS]) | with_reducible refine Wp.drawS (by decide +kernel) ?_ | simp (disch := (first | (simp only [List.length_set, hl]; omega) | omega | rfl)) only [walkA, walkB, bne_self_eq_false, beq_self_eq_true, Option.map_some, Option.map_none, reduceIte, decide_true, decide_false, Int.reduceLT, Int.reduceLE, Int.reduceMul, Int.reduceAdd, Int.reduceSub, List.append_eq, List.cons_append, List.nil_append, h0, h1, xa, xb, la, lb, bin_str_ne, bin_boolN, bin_PO_ne, bin_WC_ne, Bool.not_true, Bool.not_false, faQ0, faQ1, faQ2, faQ3, faQ4, faQ5, faQ6, faQ7, faQ8, faQ9, faQ10, faQ11, faQ12, faQ13, faQ14, faQ15, faQ16, faQ17, faQ18, faQ19, faQ20, faQ21, n0, e1, e2, e3, e4, e5, e6])
    refine Wp.cond_true (by first | ((simp (disch := (first | (simp only [List.length_set, hl]; omega) | omega | rfl)) only [sL, aEval_tmp]); done) | ((simp (disch := (first | (simp only [List.length_set, hl]; omega) | omega | rfl)) only [sL, aEval_tmp]); rfl)) ?_
    repeat (first | (with_reducible refine Wp.st ?_; simp only [wS]) | with_reducible refine Wp.drawS (by decide +kernel) ?_ | simp (disch := (first | (simp only [List.length_set, hl]; omega) | omega | rfl)) only [walkA, walkB, bne_self_eq_false, beq_self_eq_true, Option.map_some, Option.map_none, reduceIte, decide_true, decide_false, Int.reduceLT, Int.reduceLE, Int.reduceMul, Int.reduceAdd, Int.reduceSub])
    simp (disch := (first | (simp only [List.length_set, hl]; omega) | omega | rfl)) only [aRes_one Try.results17, sL]
    exact ⟨by simp [RR.eq, e0, e1, e2, e3, e4, e5, e6], sm⟩
  cases e7 : (a.hasHandle == b.hasHandle)
  · skip
    repeat (first | (with_reducible refine Wp.st ?_; simp only [wS]) | with_reducible refine Wp.drawS (by decide +kernel) ?_ | simp (disch := (first | (simp only [List.length_set, hl]; omega) | omega | rfl)) only [walkA, walkB, bne_self_eq_false, beq_self_eq_true, Option.map_some, Option.map_none, reduceIte, decide_true, decide_false, Int.reduceLT, Int.reduceLE, Int.reduceMul, Int.reduceAdd, Int.reduceSub, List.append_eq, List.cons_append, List.nil_append, h0, h1, xa, xb, la, lb, bin_str_ne, bin_boolN, bin_PO_ne, bin_WC_ne, Bool.not_true, Bool.not_false, faQ0, faQ1, faQ2, faQ3, faQ4, faQ5, faQ6, faQ7, faQ8, faQ9, faQ10, faQ11, faQ12, faQ13, faQ14, faQ15, faQ16, faQ17, faQ18, faQ19, faQ20, faQ21, n0, e1, e2, e3, e4, e5, e6, e7])
    refine Wp.cond_true (by first | ((simp (disch := (first | (simp only [List.length_set, hl]; omega) | omega | rfl)) only [sL, aEval_tmp]); done) | ((simp (disch := (first | (simp only [List.length_set, hl]; omega) | omega | rfl)) only [sL, aEval_tmp]); rfl)) ?_
    repeat (first | (with_reducible refine Wp.st ?_; simp only [wS]) | with_reducible refine Wp.drawS (by decide +kernel) ?_ | simp (disch := (first | (simp only [List.length_set, hl]; omega) | omega | rfl)) only [walkA, walkB, bne_self_eq_false, beq_self_eq_true, Option.map_some, Option.map_none, reduceIte, decide_true, decide_false, Int.reduceLT, Int.reduceLE, Int.reduceMul, Int.reduceAdd, Int.reduceSub])
    simp (disch := (first | (simp only [List.length_set, hl]; omega) | omega | rfl)) only [aRes_one Try.results17, sL]
    exact ⟨by simp [RR.eq, e0, e1, e2, e3, e4, e5, e6, e7], sm⟩
  cases e8 : (a.handle.data.toList == b.handle.data.toList)
  · skip
    repeat (first | (with_reducible refine Wp.st ?_; simp only [wS]) | with_reducible refine Wp.drawS (by decide +kernel) ?_ | simp (disch := (first | (simp only [List.length_set, hl]; omega) | omega | rfl)) only [walkA, walkB, bne_self_eq_false, beq_self_eq_true, Option.map_some, Option.map_none, reduceIte, decide_true, decide_false, Int.reduceLT, Int.reduceLE, Int.reduceMul, Int.reduceAdd, Int.reduceSub, List.append_eq, List.cons_append, List.nil_append, h0, h1, xa, xb, la, lb, bin_str_ne, bin_boolN, bin_PO_ne, bin_WC_ne, Bool.not_true, Bool.not_false, faQ0, faQ1, faQ2, faQ3, faQ4, faQ5, faQ6, faQ7, faQ8, faQ9, faQ10, faQ11, faQ12, faQ13, faQ14, faQ15, faQ16, faQ17, faQ18, faQ19, faQ20, faQ21, n0, e1, e2, e3, e4, e5, e6, e7, e8])
    refine Wp.cond_true (by first | ((simp (disch := (first | (simp only [List.length_set, hl]; omega) | omega | rfl)) only [sL, aEval_tmp]); done) | ((simp (disch := (first | (simp only [List.length_set, hl]; omega) | omega | rfl)) only [sL, aEval_tmp]); rfl)) ?_
    repeat (first | (with_reducible refine Wp.st ?_; simp only [wS]) | with_reducible refine Wp.drawS (by decide +kernel) ?_ | simp (disch := (first | (simp only [List.length_set, hl]; omega) | omega | rfl)) only [walkA, walkB, bne_self_eq_false, beq_self_eq_true, Option.map_some, Option.map_none, reduceIte, decide_true, decide_false, Int.reduceLT, Int.reduceLE, Int.reduceMul, Int.reduceAdd, Int.reduceSub])
    simp (disch := (first | (simp only [List.length_set, hl]; omega) | omega | rfl)) only [aRes_one Try.results17, sL]
    exact ⟨by simp [RR.eq, e0, e1, e2, e3, e4, e5, e6, e7, e8], sm⟩
  repeat (first | (with_reducible refine Wp.st ?_; simp only [wS]) | with_reducible refine Wp.drawS (by decide +kernel) ?_ | simp (disch := (first | (simp only [List.length_set, hl]; omega) | omega | rfl)) only [walkA, walkB, bne_self_eq_false, beq_self_eq_true, Option.map_some, Option.map_none, reduceIte, decide_true, decide_false, Int.reduceLT, Int.reduceLE, Int.reduceMul, Int.reduceAdd, Int.reduceSub, List.append_eq, List.cons_append, List.nil_append, h0, h1, xa, xb, la, lb, bin_str_ne, bin_boolN, bin_PO_ne, bin_WC_ne, Bool.not_true, Bool.not_false, faQ0, faQ1, faQ2, faQ3, faQ4, faQ5, faQ6, faQ7, faQ8, faQ9, faQ10, faQ11, faQ12, faQ13, faQ14, faQ15, faQ16, faQ17, faQ18, faQ19, faQ20, faQ21, n0, e1, e2, e3, e4, e5, e6, e7, e8])
  refine Wp.cond_false (by first | ((simp (disch := (first | (simp only [List.length_set, hl]; omega) | omega | rfl)) only [sL, aEval_tmp]); done) | ((simp (disch := (first | (simp only [List.length_set, hl]; omega) | omega | rfl)) only [sL, aEval_tmp]); rfl)) ?_
  refine Wp.fresh 178 2 3 (x := pt ka 0) (y := pt kb 0) (by simp [hl]) (by (simp (disch := (first | (simp only [List.length_set, hl]; omega) | omega | rfl)) only [sL])) (by (simp (disch := (first | (simp only [List.length_set, hl]; omega) | omega | rfl)) only [sL])) ?_
  clear h0 h1 hl env xa xb
  intro env hl h2' h3'
  cases e9 : (a.access == b.access)
  · skip
    have n9 : (a.access != b.access) = true := by unfold bne; rw [e9]; rfl
    repeat (first | (with_reducible refine Wp.st ?_; simp only [wS]) | with_reducible refine Wp.drawS (by decide +kernel) ?_ | simp (disch := (first | (simp only [List.length_set, hl]; omega) | omega | rfl)) only [walkA, walkB, bne_self_eq_false, beq_self_eq_true, Option.map_some, Option.map_none, reduceIte, decide_true, decide_false, Int.reduceLT, Int.reduceLE, Int.reduceMul, Int.reduceAdd, Int.reduceSub, List.append_eq, List.cons_append, List.nil_append, h2', h3', la, lb, la1, lb1, cva, cvb, bin_str_ne, bin_boolN, bin_PO_ne, bin_WC_ne, Bool.not_true, Bool.not_false, faQ0, faQ1, faQ2, faQ3, faQ4, faQ5, faQ6, faQ7, faQ8, faQ9, faQ10, faQ11, faQ12, faQ13, faQ14, faQ15, faQ16, faQ17, faQ18, faQ19, faQ20, faQ21, n9])
    refine Wp.cond_true (by first | ((simp (disch := (first | (simp only [List.length_set, hl]; omega) | omega | rfl)) only [sL, aEval_tmp]); done) | ((simp (disch := (first | (simp only [List.length_set, hl]; omega) | omega | rfl)) only [sL, aEval_tmp]); rfl)) ?_
    repeat (first | (with_reducible refine Wp.st ?_; simp only [wS]) | with_reducible refine Wp.drawS (by decide +kernel) ?_ | simp (disch := (first | (simp only [List.length_set, hl]; omega) | omega | rfl)) only [walkA, walkB, bne_self_eq_false, beq_self_eq_true, Option.map_some, Option.map_none, reduceIte, decide_true, decide_false, Int.reduceLT, Int.reduceLE, Int.reduceMul, Int.reduceAdd, Int.reduceSub])
    simp (disch := (first | (simp only [List.length_set, hl]; omega) | omega | rfl)) only [aRes_one Try.results17, sL]
    exact ⟨by simp [RR.eq, e0, e1, e2, e3, e4, e5, e6, e7, e8, e9], sm⟩
  have n9 : (a.access != b.access) = false := by unfold bne; rw [e9]; rfl
  cases e10 : (a.path.data.toList == b.path.data.toList)
  · skip
    repeat (first | (with_reducible refine Wp.st ?_; simp only [wS]) | with_reducible refine Wp.drawS (by decide +kernel) ?_ | simp (disch := (first | (simp only [List.length_set, hl]; omega) | omega | rfl)) only [walkA, walkB, bne_self_eq_false, beq_self_eq_true, Option.map_some, Option.map_none, reduceIte, decide_true, decide_false, Int.reduceLT, Int.reduceLE, Int.reduceMul, Int.reduceAdd, Int.reduceSub, List.append_eq, List.cons_append, List.nil_append, h2', h3', la, lb, la1, lb1, cva, cvb, bin_str_ne, bin_boolN, bin_PO_ne, bin_WC_ne, Bool.not_true, Bool.not_false, faQ0, faQ1, faQ2, faQ3, faQ4, faQ5, faQ6, faQ7, faQ8, faQ9, faQ10, faQ11, faQ12, faQ13, faQ14, faQ15, faQ16, faQ17, faQ18, faQ19, faQ20, faQ21, n9, e10])
    refine Wp.cond_true (by first | ((simp (disch := (first | (simp only [List.length_set, hl]; omega) | omega | rfl)) only [sL, aEval_tmp]); done) | ((simp (disch := (first | (simp only [List.length_set, hl]; omega) | omega | rfl)) only [sL, aEval_tmp]); rfl)) ?_
    repeat (first | (with_reducible refine Wp.st ?_; simp only [wS]) | with_reducible refine Wp.drawS (by decide +kernel) ?_ | simp (disch := (first | (simp only [List.length_set, hl]; omega) | omega | rfl)) only [walkA, walkB, bne_self_eq_false, beq_self_eq_true, Option.map_some, Option.map_none, reduceIte, decide_true, decide_false, Int.reduceLT, Int.reduceLE, Int.reduceMul, Int.reduceAdd, Int.reduceSub])
    simp (disch := (first | (simp only [List.length_set, hl]; omega) | omega | rfl)) only [aRes_one Try.results17, sL]
    exact ⟨by simp [RR.eq, e0, e1, e2, e3, e4, e5, e6, e7, e8, e9, e10], sm⟩
  cases e11 : (a.count == b.count)
  · skip
    have n11 : (a.count != b.count) = true := by unfold bne; rw [e11]; rfl
    repeat (first | (with_reducible refine Wp.st ?_; simp only [wS]) | with_reducible refine Wp.drawS (by decide +kernel) ?_ | simp (disch := (first | (simp only [List.length_set, hl]; omega) | omega | rfl)) only [walkA, walkB, bne_self_eq_false, beq_self_eq_true, Option.map_some, Option.map_none, reduceIte, decide_true, decide_false, Int.reduceLT, Int.reduceLE, Int.reduceMul, Int.reduceAdd, Int.reduceSub, List.append_eq, List.cons_append, List.nil_append, h2', h3', la, lb, la1, lb1, cva, cvb, bin_str_ne, bin_boolN, bin_PO_ne, bin_WC_ne, Bool.not_true, Bool.not_false, faQ0, faQ1, faQ2, faQ3, faQ4, faQ5, faQ6, faQ7, faQ8, faQ9, faQ10, faQ11, faQ12, faQ13, faQ14, faQ15, faQ16, faQ17, faQ18, faQ19, faQ20, faQ21, n9, e10, n11])
    refine Wp.cond_true (by first | ((simp (disch := (first | (simp only [List.length_set, hl]; omega) | omega | rfl)) only [sL, aEval_tmp]); done) | ((simp (disch := (first | (simp only [List.length_set, hl]; omega) | omega | rfl)) only [sL, aEval_tmp]); rfl)) ?_
    repeat (first | (with_reducible refine Wp.st ?_; simp only [wS]) | with_reducible refine Wp.drawS (by decide +kernel) ?_ | simp (disch := (first | (simp only [List.length_set, hl]; omega) | omega | rfl)) only [walkA, walkB, bne_self_eq_false, beq_self_eq_true, Option.map_some, Option.map_none, reduceIte, decide_true, decide_false, Int.reduceLT, Int.reduceLE, Int.reduceMul, Int.reduceAdd, Int.reduceSub])
    simp (disch := (first | (simp only [List.length_set, hl]; omega) | omega | rfl)) only [aRes_one Try.results17, sL]
    exact ⟨by simp [RR.eq, e0, e1, e2, e3, e4, e5, e6, e7, e8, e9, e10, e11], sm⟩
  have n11 : (a.count != b.count) = false := by unfold bne; rw [e11]; rfl
  cases e12 : (a.eof == b.eof)
  · skip
    repeat (first | (with_reducible refine Wp.st ?_; simp only [wS]) | with_reducible refine Wp.drawS (by decide +kernel) ?_ | simp (disch := (first | (simp only [List.length_set, hl]; omega) | omega | rfl)) only [walkA, walkB, bne_self_eq_false, beq_self_eq_true, Option.map_some, Option.map_none, reduceIte, decide_true, decide_false, Int.reduceLT, Int.reduceLE, Int.reduceMul, Int.reduceAdd, Int.reduceSub, List.append_eq, List.cons_append, List.nil_append, h2', h3', la, lb, la1, lb1, cva, cvb, bin_str_ne, bin_boolN, bin_PO_ne, bin_WC_ne, Bool.not_true, Bool.not_false, faQ0, faQ1, faQ2, faQ3, faQ4, faQ5, faQ6, faQ7, faQ8, faQ9, faQ10, faQ11, faQ12, faQ13, faQ14, faQ15, faQ16, faQ17, faQ18, faQ19, faQ20, faQ21, n9, e10, n11, e12])
    refine Wp.cond_true (by first | ((simp (disch := (first | (simp only [List.length_set, hl]; omega) | omega | rfl)) only [sL, aEval_tmp]); done) | ((simp (disch := (first | (simp only [List.length_set, hl]; omega) | omega | rfl)) only [sL, aEval_tmp]); rfl)) ?_
    repeat (first | (with_reducible refine Wp.st ?_; simp only [wS]) | with_reducible refine Wp.drawS (by decide +kernel) ?_ | simp (disch := (first | (simp only [List.length_set, hl]; omega) | omega | rfl)) only [walkA, walkB, bne_self_eq_false, beq_self_eq_true, Option.map_some, Option.map_none, reduceIte, decide_true, decide_false, Int.reduceLT, Int.reduceLE, Int.reduceMul, Int.reduceAdd, Int.reduceSub])
    simp (disch := (first | (simp only [List.length_set, hl]; omega) | omega | rfl)) only [aRes_one Try.results17, sL]
    exact ⟨by simp [RR.eq, e0, e1, e2, e3, e4, e5, e6, e7, e8, e9, e10, e11, e12], sm⟩
  cases e13 : ((strS a.data).data.toList == (strS b.data).data.toList)
  · skip
    repeat (first | (with_reducible refine Wp.st ?_; simp only [wS]) | with_reducible refine Wp.drawS (by decide +kernel) ?_ | simp (disch := (first | (simp only [List.length_set, hl]; omega) | omega | rfl)) only [walkA, walkB, bne_self_eq_false, beq_self_eq_true, Option.map_some, Option.map_none, reduceIte, decide_true, decide_false, Int.reduceLT, Int.reduceLE, Int.reduceMul, Int.reduceAdd, Int.reduceSub, List.append_eq, List.cons_append, List.nil_append, h2', h3', la, lb, la1, lb1, cva, cvb, bin_str_ne, bin_boolN, bin_PO_ne, bin_WC_ne, Bool.not_true, Bool.not_false, faQ0, faQ1, faQ2, faQ3, faQ4, faQ5, faQ6, faQ7, faQ8, faQ9, faQ10, faQ11, faQ12, faQ13, faQ14, faQ15, faQ16, faQ17, faQ18, faQ19, faQ20, faQ21, n9, e10, n11, e12, e13])
    refine Wp.cond_true (by first | ((simp (disch := (first | (simp only [List.length_set, hl]; omega) | omega | rfl)) only [sL, aEval_tmp]); done) | ((simp (disch := (first | (simp only [List.length_set, hl]; omega) | omega | rfl)) only [sL, aEval_tmp]); rfl)) ?_
    repeat (first | (with_reducible refine Wp.st ?_; simp only [wS]) | with_reducible refine Wp.drawS (by decide +kernel) ?_ | simp (disch := (first | (simp only [List.length_set, hl]; omega) | omega | rfl)) only [walkA, walkB, bne_self_eq_false, beq_self_eq_true, Option.map_some, Option.map_none, reduceIte, decide_true, decide_false, Int.reduceLT, Int.reduceLE, Int.reduceMul, Int.reduceAdd, Int.reduceSub])
    simp (disch := (first | (simp only [List.length_set, hl]; omega) | omega | rfl)) only [aRes_one Try.results17, sL]
    exact ⟨by simp [RR.eq, e0, e1, e2, e3, e4, e5, e6, e7, e8, e9, e10, e11, e12, e13], sm⟩
  cases e14 : (a.committed == b.committed)
  · skip
    have n14 : (a.committed != b.committed) = true := by unfold bne; rw [e14]; rfl
    repeat (first | (with_reducible refine Wp.st ?_; simp only [wS]) | with_reducible refine Wp.drawS (by decide +kernel) ?_ | simp (disch := (first | (simp only [List.length_set, hl]; omega) | omega | rfl)) only [walkA, walkB, bne_self_eq_false, beq_self_eq_true, Option.map_some, Option.map_none, reduceIte, decide_true, decide_false, Int.reduceLT, Int.reduceLE, Int.reduceMul, Int.reduceAdd, Int.reduceSub, List.append_eq, List.cons_append, List.nil_append, h2', h3', la, lb, la1, lb1, cva, cvb, bin_str_ne, bin_boolN, bin_PO_ne, bin_WC_ne, Bool.not_true, Bool.not_false, faQ0, faQ1, faQ2, faQ3, faQ4, faQ5, faQ6, faQ7, faQ8, faQ9, faQ10, faQ11, faQ12, faQ13, faQ14, faQ15, faQ16, faQ17, faQ18, faQ19, faQ20, faQ21, n9, e10, n11, e12, e13, n14])
    refine Wp.cond_true (by first | ((simp (disch := (first | (simp only [List.length_set, hl]; omega) | omega | rfl)) only [sL, aEval_tmp]); done) | ((simp (disch := (first | (simp only [List.length_set, hl]; omega) | omega | rfl)) only [sL, aEval_tmp]); rfl)) ?_
    repeat (first | (with_reducible refine Wp.st ?_; simp only [wS]) | with_reducible refine Wp.drawS (by decide +kernel) ?_ | simp (disch := (first | (simp only [List.length_set, hl]; omega) | omega | rfl)) only [walkA, walkB, bne_self_eq_false, beq_self_eq_true, Option.map_some, Option.map_none, reduceIte, decide_true, decide_false, Int.reduceLT, Int.reduceLE, Int.reduceMul, Int.reduceAdd, Int.reduceSub])
    simp (disch := (first | (simp only [List.length_set, hl]; omega) | omega | rfl)) only [aRes_one Try.results17, sL]
    exact ⟨by simp [RR.eq, e0, e1, e2, e3, e4, e5, e6, e7, e8, e9, e10, e11, e12, e13, e14], sm⟩
  have n14 : (a.committed != b.committed) = false := by unfold bne; rw [e14]; rfl
  cases e15 : (a.verf == b.verf)
  · skip
    have n15 : (a.verf != b.verf) = true := by unfold bne; rw [e15]; rfl
    repeat (first | (with_reducible refine Wp.st ?_; simp only [wS]) | with_reducible refine Wp.drawS (by decide +kernel) ?_ | simp (disch := (first | (simp only [List.length_set, hl]; omega) | omega | rfl)) only [walkA, walkB, bne_self_eq_false, beq_self_eq_true, Option.map_some, Option.map_none, reduceIte, decide_true, decide_false, Int.reduceLT, Int.reduceLE, Int.reduceMul, Int.reduceAdd, Int.reduceSub, List.append_eq, List.cons_append, List.nil_append, h2', h3', la, lb, la1, lb1, cva, cvb, bin_str_ne, bin_boolN, bin_PO_ne, bin_WC_ne, Bool.not_true, Bool.not_false, faQ0, faQ1, faQ2, faQ3, faQ4, faQ5, faQ6, faQ7, faQ8, faQ9, faQ10, faQ11, faQ12, faQ13, faQ14, faQ15, faQ16, faQ17, faQ18, faQ19, faQ20, faQ21, n9, e10, n11, e12, e13, n14, n15])
    refine Wp.cond_true (by first | ((simp (disch := (first | (simp only [List.length_set, hl]; omega) | omega | rfl)) only [sL, aEval_tmp]); done) | ((simp (disch := (first | (simp only [List.length_set, hl]; omega) | omega | rfl)) only [sL, aEval_tmp]); rfl)) ?_
    repeat (first | (with_reducible refine Wp.st ?_; simp only [wS]) | with_reducible refine Wp.drawS (by decide +kernel) ?_ | simp (disch := (first | (simp only [List.length_set, hl]; omega) | omega | rfl)) only [walkA, walkB, bne_self_eq_false, beq_self_eq_true, Option.map_some, Option.map_none, reduceIte, decide_true, decide_false, Int.reduceLT, Int.reduceLE, Int.reduceMul, Int.reduceAdd, Int.reduceSub])
    simp (disch := (first | (simp only [List.length_set, hl]; omega) | omega | rfl)) only [aRes_one Try.results17, sL]
    exact ⟨by simp [RR.eq, e0, e1, e2, e3, e4, e5, e6, e7, e8, e9, e10, e11, e12, e13, e14, e15], sm⟩
  have n15 : (a.verf != b.verf) = false := by unfold bne; rw [e15]; rfl
  cases e16 : (a.cookieVerf == b.cookieVerf)
  · skip
    have n16 : (a.cookieVerf != b.cookieVerf) = true := by unfold bne; rw [e16]; rfl
    repeat (first | (with_reducible refine Wp.st ?_; simp only [wS]) | with_reducible refine Wp.drawS (by decide +kernel) ?_ | simp (disch := (first | (simp only [List.length_set, hl]; omega) | omega | rfl)) only [walkA, walkB, bne_self_eq_false, beq_self_eq_true, Option.map_some, Option.map_none, reduceIte, decide_true, decide_false, Int.reduceLT, Int.reduceLE, Int.reduceMul, Int.reduceAdd, Int.reduceSub, List.append_eq, List.cons_append, List.nil_append, h2', h3', la, lb, la1, lb1, cva, cvb, bin_str_ne, bin_boolN, bin_PO_ne, bin_WC_ne, Bool.not_true, Bool.not_false, faQ0, faQ1, faQ2, faQ3, faQ4, faQ5, faQ6, faQ7, faQ8, faQ9, faQ10, faQ11, faQ12, faQ13, faQ14, faQ15, faQ16, faQ17, faQ18, faQ19, faQ20, faQ21, n9, e10, n11, e12, e13, n14, n15, n16])
    refine Wp.cond_true (by first | ((simp (disch := (first | (simp only [List.length_set, hl]; omega) | omega | rfl)) only [sL, aEval_tmp]); done) | ((simp (disch := (first | (simp only [List.length_set, hl]; omega) | omega | rfl)) only [sL, aEval_tmp]); rfl)) ?_
    repeat (first | (with_reducible refine Wp.st ?_; simp only [wS]) | with_reducible refine Wp.drawS (by decide +kernel) ?_ | simp (disch := (first | (simp only [List.length_set, hl]; omega) | omega | rfl)) only [walkA, walkB, bne_self_eq_false, beq_self_eq_true, Option.map_some, Option.map_none, reduceIte, decide_true, decide_false, Int.reduceLT, Int.reduceLE, Int.reduceMul, Int.reduceAdd, Int.reduceSub])
    simp (disch := (first | (simp only [List.length_set, hl]; omega) | omega | rfl)) only [aRes_one Try.results17, sL]
    exact ⟨by simp [RR.eq, e0, e1, e2, e3, e4, e5, e6, e7, e8, e9, e10, e11, e12, e13, e14, e15, e16], sm⟩
  have n16 : (a.cookieVerf != b.cookieVerf) = false := by unfold bne; rw [e16]; rfl
  cases e17 : (a.bytes == b.bytes)
  · skip
    have n17 : (a.bytes != b.bytes) = true := by unfold bne; rw [e17]; rfl
    repeat (first | (with_reducible refine Wp.st ?_; simp only [wS]) | with_reducible refine Wp.drawS (by decide +kernel) ?_ | simp (disch := (first | (simp only [List.length_set, hl]; omega) | omega | rfl)) only [walkA, walkB, bne_self_eq_false, beq_self_eq_true, Option.map_some, Option.map_none, reduceIte, decide_true, decide_false, Int.reduceLT, Int.reduceLE, Int.reduceMul, Int.reduceAdd, Int.reduceSub, List.append_eq, List.cons_append, List.nil_append, h2', h3', la, lb, la1, lb1, cva, cvb, bin_str_ne, bin_boolN, bin_PO_ne, bin_WC_ne, Bool.not_true, Bool.not_false, faQ0, faQ1, faQ2, faQ3, faQ4, faQ5, faQ6, faQ7, faQ8, faQ9, faQ10, faQ11, faQ12, faQ13, faQ14, faQ15, faQ16, faQ17, faQ18, faQ19, faQ20, faQ21, n9, e10, n11, e12, e13, n14, n15, n16, n17])
    refine Wp.cond_true (by first | ((simp (disch := (first | (simp only [List.length_set, hl]; omega) | omega | rfl)) only [sL, aEval_tmp]); done) | ((simp (disch := (first | (simp only [List.length_set, hl]; omega) | omega | rfl)) only [sL, aEval_tmp]); rfl)) ?_
    repeat (first | (with_reducible refine Wp.st ?_; simp only [wS]) | with_reducible refine Wp.drawS (by decide +kernel) ?_ | simp (disch := (first | (simp only [List.length_set, hl]; omega) | omega | rfl)) only [walkA, walkB, bne_self_eq_false, beq_self_eq_true, Option.map_some, Option.map_none, reduceIte, decide_true, decide_false, Int.reduceLT, Int.reduceLE, Int.reduceMul, Int.reduceAdd, Int.reduceSub])
    simp (disch := (first | (simp only [List.length_set, hl]; omega) | omega | rfl)) only [aRes_one Try.results17, sL]
    exact ⟨by simp [RR.eq, e0, e1, e2, e3, e4, e5, e6, e7, e8, e9, e10, e11, e12, e13, e14, e15, e16, e17], sm⟩
  have n17 : (a.bytes != b.bytes) = false := by unfold bne; rw [e17]; rfl
  cases e18 : (a.freeBytes == b.freeBytes)
  · skip
    have n18 : (a.freeBytes != b.freeBytes) = true := by unfold bne; rw [e18]; rfl
    repeat (first | (with_reducible refine Wp.st ?_; simp only [wS]) | with_reducible refine Wp.drawS (by decide +kernel) ?_ | simp (disch := (first | (simp only [List.length_set, hl]; omega) | omega | rfl)) only [walkA, walkB, bne_self_eq_false, beq_self_eq_true, Option.map_some, Option.map_none, reduceIte, decide_true, decide_false, Int.reduceLT, Int.reduceLE, Int.reduceMul, Int.reduceAdd, Int.reduceSub, List.append_eq, List.cons_append, List.nil_append, h2', h3', la, lb, la1, lb1, cva, cvb, bin_str_ne, bin_boolN, bin_PO_ne, bin_WC_ne, Bool.not_true, Bool.not_false, faQ0, faQ1, faQ2, faQ3, faQ4, faQ5, faQ6, faQ7, faQ8, faQ9, faQ10, faQ11, faQ12, faQ13, faQ14, faQ15, faQ16, faQ17, faQ18, faQ19, faQ20, faQ21, n9, e10, n11, e12, e13, n14, n15, n16, n17, n18])
    refine Wp.cond_true (by first | ((simp (disch := (first | (simp only [List.length_set, hl]; omega) | omega | rfl)) only [sL, aEval_tmp]); done) | ((simp (disch := (first | (simp only [List.length_set, hl]; omega) | omega | rfl)) only [sL, aEval_tmp]); rfl)) ?_
    repeat (first | (with_reducible refine Wp.st ?_; simp only [wS]) | with_reducible refine Wp.drawS (by decide +kernel) ?_ | simp (disch := (first | (simp only [List.length_set, hl]; omega) | omega | rfl)) only [walkA, walkB, bne_self_eq_false, beq_self_eq_true, Option.map_some, Option.map_none, reduceIte, decide_true, decide_false, Int.reduceLT, Int.reduceLE, Int.reduceMul, Int.reduceAdd, Int.reduceSub])
    simp (disch := (first | (simp only [List.length_set, hl]; omega) | omega | rfl)) only [aRes_one Try.results17, sL]
    exact ⟨by simp [RR.eq, e0, e1, e2, e3, e4, e5, e6, e7, e8, e9, e10, e11, e12, e13, e14, e15, e16, e17, e18], sm⟩
  have n18 : (a.freeBytes != b.freeBytes) = false := by unfold bne; rw [e18]; rfl
  cases e19 : (a.files == b.files)
  · skip
    have n19 : (a.files != b.files) = true := by unfold bne; rw [e19]; rfl
    repeat (first | (with_reducible refine Wp.st ?_; simp only [wS]) | with_reducible refine Wp.drawS (by decide +kernel) ?_ | simp (disch := (first | (simp only [List.length_set, hl]; omega) | omega | rfl)) only [walkA, walkB, bne_self_eq_false, beq_self_eq_true, Option.map_some, Option.map_none, reduceIte, decide_true, decide_false, Int.reduceLT, Int.reduceLE, Int.reduceMul, Int.reduceAdd, Int.reduceSub, List.append_eq, List.cons_append, List.nil_append, h2', h3', la, lb, la1, lb1, cva, cvb, bin_str_ne, bin_boolN, bin_PO_ne, bin_WC_ne, Bool.not_true, Bool.not_false, faQ0, faQ1, faQ2, faQ3, faQ4, faQ5, faQ6, faQ7, faQ8, faQ9, faQ10, faQ11, faQ12, faQ13, faQ14, faQ15, faQ16, faQ17, faQ18, faQ19, faQ20, faQ21, n9, e10, n11, e12, e13, n14, n15, n16, n17, n18, n19])
    refine Wp.cond_true (by first | ((simp (disch := (first | (simp only [List.length_set, hl]; omega) | omega | rfl)) only [sL, aEval_tmp]); done) | ((simp (disch := (first | (simp only [List.length_set, hl]; omega) | omega | rfl)) only [sL, aEval_tmp]); rfl)) ?_
    repeat (first | (with_reducible refine Wp.st ?_; simp only [wS]) | with_reducible refine Wp.drawS (by decide +kernel) ?_ | simp (disch := (first | (simp only [List.length_set, hl]; omega) | omega | rfl)) only [walkA, walkB, bne_self_eq_false, beq_self_eq_true, Option.map_some, Option.map_none, reduceIte, decide_true, decide_false, Int.reduceLT, Int.reduceLE, Int.reduceMul, Int.reduceAdd, Int.reduceSub])
    simp (disch := (first | (simp only [List.length_set, hl]; omega) | omega | rfl)) only [aRes_one Try.results17, sL]
    exact ⟨by simp [RR.eq, e0, e1, e2, e3, e4, e5, e6, e7, e8, e9, e10, e11, e12, e13, e14, e15, e16, e17, e18, e19], sm⟩
  have n19 : (a.files != b.files) = false := by unfold bne; rw [e19]; rfl
  cases e20 : (a.freeFiles == b.freeFiles)
  · skip
    have n20 : (a.freeFiles != b.freeFiles) = true := by unfold bne; rw [e20]; rfl
    repeat (first | (with_reducible refine Wp.st ?_; simp only [wS]) | with_reducible refine Wp.drawS (by decide +kernel) ?_ | simp (disch := (first | (simp only [List.length_set, hl]; omega) | omega | rfl)) only [walkA, walkB, bne_self_eq_false, beq_self_eq_true, Option.map_some, Option.map_none, reduceIte, decide_true, decide_false, Int.reduceLT, Int.reduceLE, Int.reduceMul, Int.reduceAdd, Int.reduceSub, List.append_eq, List.cons_append, List.nil_append, h2', h3', la, lb, la1, lb1, cva, cvb, bin_str_ne, bin_boolN, bin_PO_ne, bin_WC_ne, Bool.not_true, Bool.not_false, faQ0, faQ1, faQ2, faQ3, faQ4, faQ5, faQ6, faQ7, faQ8, faQ9, faQ10, faQ11, faQ12, faQ13, faQ14, faQ15, faQ16, faQ17, faQ18, faQ19, faQ20, faQ21, n9, e10, n11, e12, e13, n14, n15, n16, n17, n18, n19, n20])
    refine Wp.cond_true (by first | ((simp (disch := (first | (simp only [List.length_set, hl]; omega) | omega | rfl)) only [sL, aEval_tmp]); done) | ((simp (disch := (first | (simp only [List.length_set, hl]; omega) | omega | rfl)) only [sL, aEval_tmp]); rfl)) ?_
    repeat (first | (with_reducible refine Wp.st ?_; simp only [wS]) | with_reducible refine Wp.drawS (by decide +kernel) ?_ | simp (disch := (first | (simp only [List.length_set, hl]; omega) | omega | rfl)) only [walkA, walkB, bne_self_eq_false, beq_self_eq_true, Option.map_some, Option.map_none, reduceIte, decide_true, decide_false, Int.reduceLT, Int.reduceLE, Int.reduceMul, Int.reduceAdd, Int.reduceSub])
    simp (disch := (first | (simp only [List.length_set, hl]; omega) | omega | rfl)) only [aRes_one Try.results17, sL]
    exact ⟨by simp [RR.eq, e0, e1, e2, e3, e4, e5, e6, e7, e8, e9, e10, e11, e12, e13, e14, e15, e16, e17, e18, e19, e20], sm⟩
  have n20 : (a.freeFiles != b.freeFiles) = false := by unfold bne; rw [e20]; rfl
  by_cases hn : a.ents.length = b.ents.length
  case neg =>
    have d1 : ((a.ents.length : Int) != b.ents.length) = true := by simp only [bne_iff_ne, ne_eq]; omega
    repeat (first | (with_reducible refine Wp.st ?_; simp only [wS]) | with_reducible refine Wp.drawS (by decide +kernel) ?_ | simp (disch := (first | (simp only [List.length_set, hl]; omega) | omega | rfl)) only [walkA, walkB, bne_self_eq_false, beq_self_eq_true, Option.map_some, Option.map_none, reduceIte, decide_true, decide_false, Int.reduceLT, Int.reduceLE, Int.reduceMul, Int.reduceAdd, Int.reduceSub, List.append_eq, List.cons_append, List.nil_append, h2', h3', la, lb, la1, lb1, cva, cvb, bin_str_ne, bin_boolN, bin_PO_ne, bin_WC_ne, Bool.not_true, Bool.not_false, faQ0, faQ1, faQ2, faQ3, faQ4, faQ5, faQ6, faQ7, faQ8, faQ9, faQ10, faQ11, faQ12, faQ13, faQ14, faQ15, faQ16, faQ17, faQ18, faQ19, faQ20, faQ21, d1, n9, e10, n11, e12, e13, n14, n15, n16, n17, n18, n19, n20])
    refine Wp.cond_true (by first | ((simp (disch := (first | (simp only [List.length_set, hl]; omega) | omega | rfl)) only [sL, aEval_tmp]); done) | ((simp (disch := (first | (simp only [List.length_set, hl]; omega) | omega | rfl)) only [sL, aEval_tmp]); rfl)) ?_
    repeat (first | (with_reducible refine Wp.st ?_; simp only [wS]) | with_reducible refine Wp.drawS (by decide +kernel) ?_ | simp (disch := (first | (simp only [List.length_set, hl]; omega) | omega | rfl)) only [walkA, walkB, bne_self_eq_false, beq_self_eq_true, Option.map_some, Option.map_none, reduceIte, decide_true, decide_false, Int.reduceLT, Int.reduceLE, Int.reduceMul, Int.reduceAdd, Int.reduceSub])
    simp (disch := (first | (simp only [List.length_set, hl]; omega) | omega | rfl)) only [aRes_one Try.results17, sL]
    exact ⟨by simp [RR.eq, enEq_len hn], sm⟩
  have d1 : ((a.ents.length : Int) != b.ents.length) = false := by rw [hn, bne_self_eq_false]
  repeat (first | (with_reducible refine Wp.st ?_; simp only [wS]) | with_reducible refine Wp.drawS (by decide +kernel) ?_ | simp (disch := (first | (simp only [List.length_set, hl]; omega) | omega | rfl)) only [walkA, walkB, bne_self_eq_false, beq_self_eq_true, Option.map_some, Option.map_none, reduceIte, decide_true, decide_false, Int.reduceLT, Int.reduceLE, Int.reduceMul, Int.reduceAdd, Int.reduceSub, List.append_eq, List.cons_append, List.nil_append, h2', h3', la, lb, la1, lb1, cva, cvb, bin_str_ne, bin_boolN, bin_PO_ne, bin_WC_ne, Bool.not_true, Bool.not_false, faQ0, faQ1, faQ2, faQ3, faQ4, faQ5, faQ6, faQ7, faQ8, faQ9, faQ10, faQ11, faQ12, faQ13, faQ14, faQ15, faQ16, faQ17, faQ18, faQ19, faQ20, faQ21, d1, n9, e10, n11, e12, e13, n14, n15, n16, n17, n18, n19, n20])
  refine Wp.cond_false (by first | ((simp (disch := (first | (simp only [List.length_set, hl]; omega) | omega | rfl)) only [sL, aEval_tmp]); done) | ((simp (disch := (first | (simp only [List.length_set, hl]; omega) | omega | rfl)) only [sL, aEval_tmp]); rfl)) ?_
  refine Wp.fresh 178 2 3 (x := pt ka 0) (y := pt kb 0) (by simp [hl]) (by (simp (disch := (first | (simp only [List.length_set, hl]; omega) | omega | rfl)) only [sL, h2'])) (by (simp (disch := (first | (simp only [List.length_set, hl]; omega) | omega | rfl)) only [sL, h3'])) ?_
  clear h2' h3' hl env
  intro env hl h2' h3'
  repeat (first | (with_reducible refine Wp.st ?_; simp only [wS]) | with_reducible refine Wp.drawS (by decide +kernel) ?_ | simp (disch := (first | (simp only [List.length_set, hl]; omega) | omega | rfl)) only [walkA, walkB, bne_self_eq_false, beq_self_eq_true, Option.map_some, Option.map_none, reduceIte, decide_true, decide_false, Int.reduceLT, Int.reduceLE, Int.reduceMul, Int.reduceAdd, Int.reduceSub])
  refine Wp.loop (fun m e hh => ∃ j : Nat, j + m = a.ents.length ∧ e.length = 178 ∧ sl e 2 = pt ka 0 ∧ sl e 3 = pt kb 0 ∧ sl e 5 = .int .i64 j ∧ hh = h2 ∧ enEq a.ents b.ents = enEq (a.ents.drop j) (b.ents.drop j)) a.ents.length
    ⟨0, by omega, by simp [hl], by (simp (disch := (first | (simp only [List.length_set, hl]; omega) | omega | rfl)) only [sL, h2']), by (simp (disch := (first | (simp only [List.length_set, hl]; omega) | omega | rfl)) only [sL, h3']), by (simp (disch := (first | (simp only [List.length_set, hl]; omega) | omega | rfl)) only [sL]); rfl, rfl, by simp⟩ ?_
  clear h2' h3' hl env
  rintro m e hh ⟨j, hj, hl, s2, s3, s5, eh, et⟩
  subst eh
  repeat (first | (with_reducible refine Wp.st ?_; simp only [wS]) | with_reducible refine Wp.drawS (by decide +kernel) ?_ | simp (disch := (first | (simp only [List.length_set, hl]; omega) | omega | rfl)) only [walkA, walkB, bne_self_eq_false, beq_self_eq_true, Option.map_some, Option.map_none, reduceIte, decide_true, decide_false, Int.reduceLT, Int.reduceLE, Int.reduceMul, Int.reduceAdd, Int.reduceSub, s2, s3, s5, la, la1, faQ17])
  by_cases hlt : j < a.ents.length
  · refine Wp.cond_true (by (simp (disch := (first | (simp only [List.length_set, hl]; omega) | omega | rfl)) only [sL, aEval_tmp]); simpa using hlt) ?_
    have hlt2 : j < b.ents.length := by omega
    obtain ⟨pa, x1, x2⟩ := row_en rea hlt
    obtain ⟨pb, y1, y2⟩ := row_en reb hlt2
    have st := enEq_step hlt hlt2
    cases hab : a.ents[j].eq b.ents[j] with
    | true =>
      rw [hab, Bool.true_and] at st
      repeat (first | (with_reducible refine Wp.st ?_; simp only [wS]) | with_reducible refine Wp.drawS (by decide +kernel) ?_ | simp (disch := (first | (simp only [List.length_set, hl]; omega) | omega | rfl)) only [walkA, walkB, bne_self_eq_false, beq_self_eq_true, Option.map_some, Option.map_none, reduceIte, decide_true, decide_false, Int.reduceLT, Int.reduceLE, Int.reduceMul, Int.reduceAdd, Int.reduceSub, s2, s3, s5, la, lb, faQ17, x1, x2, y1, y2, bin_EN_ne, hab, Bool.not_true])
      refine Wp.cond_false (by first | ((simp (disch := (first | (simp only [List.length_set, hl]; omega) | omega | rfl)) only [sL, aEval_tmp]); done) | ((simp (disch := (first | (simp only [List.length_set, hl]; omega) | omega | rfl)) only [sL, aEval_tmp]); rfl)) ?_
      repeat (first | (with_reducible refine Wp.st ?_; simp only [wS]) | with_reducible refine Wp.drawS (by decide +kernel) ?_ | simp (disch := (first | (simp only [List.length_set, hl]; omega) | omega | rfl)) only [walkA, walkB, bne_self_eq_false, beq_self_eq_true, Option.map_some, Option.map_none, reduceIte, decide_true, decide_false, Int.reduceLT, Int.reduceLE, Int.reduceMul, Int.reduceAdd, Int.reduceSub, s2, s3, s5])
      exact ⟨m - 1, by omega, j + 1, by omega, by simp [hl], by (simp (disch := (first | (simp only [List.length_set, hl]; omega) | omega | rfl)) only [sL, s2]), by (simp (disch := (first | (simp only [List.length_set, hl]; omega) | omega | rfl)) only [sL, s3]), by (simp (disch := (first | (simp only [List.length_set, hl]; omega) | omega | rfl)) only [sL, Int.natCast_add]); rfl, by trivial, by rw [et, st]⟩
    | false =>
      rw [hab, Bool.false_and] at st
      repeat (first | (with_reducible refine Wp.st ?_; simp only [wS]) | with_reducible refine Wp.drawS (by decide +kernel) ?_ | simp (disch := (first | (simp only [List.length_set, hl]; omega) | omega | rfl)) only [walkA, walkB, bne_self_eq_false, beq_self_eq_true, Option.map_some, Option.map_none, reduceIte, decide_true, decide_false, Int.reduceLT, Int.reduceLE, Int.reduceMul, Int.reduceAdd, Int.reduceSub, s2, s3, s5, la, lb, faQ17, x1, x2, y1, y2, bin_EN_ne, hab, Bool.not_false])
      refine Wp.cond_true (by first | ((simp (disch := (first | (simp only [List.length_set, hl]; omega) | omega | rfl)) only [sL, aEval_tmp]); done) | ((simp (disch := (first | (simp only [List.length_set, hl]; omega) | omega | rfl)) only [sL, aEval_tmp]); rfl)) ?_
      repeat (first | (with_reducible refine Wp.st ?_; simp only [wS]) | with_reducible refine Wp.drawS (by decide +kernel) ?_ | simp (disch := (first | (simp only [List.length_set, hl]; omega) | omega | rfl)) only [walkA, walkB, bne_self_eq_false, beq_self_eq_true, Option.map_some, Option.map_none, reduceIte, decide_true, decide_false, Int.reduceLT, Int.reduceLE, Int.reduceMul, Int.reduceAdd, Int.reduceSub])
      simp (disch := (first | (simp only [List.length_set, hl]; omega) | omega | rfl)) only [aRes_one Try.results17, sL]
      exact ⟨by simp [RR.eq, et, st], sm⟩
  · refine Wp.cond_false (by (simp (disch := (first | (simp only [List.length_set, hl]; omega) | omega | rfl)) only [sL, aEval_tmp]); simpa using hlt) ?_
    repeat (first | (with_reducible refine Wp.st ?_; simp only [wS]) | with_reducible refine Wp.drawS (by decide +kernel) ?_ | simp (disch := (first | (simp only [List.length_set, hl]; omega) | omega | rfl)) only [walkA, walkB, bne_self_eq_false, beq_self_eq_true, Option.map_some, Option.map_none, reduceIte, decide_true, decide_false, Int.reduceLT, Int.reduceLE, Int.reduceMul, Int.reduceAdd, Int.reduceSub, s2, s3, s5])
    simp (disch := (first | (simp only [List.length_set, hl]; omega) | omega | rfl)) only [aRes_one Try.results17, sL]
    rw [List.drop_eq_nil_of_le (by omega), List.drop_eq_nil_of_le (by omega)] at et
    have e30 : enEq a.ents b.ents = true := et
    exact ⟨by simp [RR.eq, e30, e0, e1, e2, e3, e4, e5, e6, e7, e8, e9, e10, e11, e12, e13, e14, e15, e16, e17, e18, e19, e20], sm⟩
end Go.Proofs.Ytanknjpcgceccaa

namespace Go.Proofs.Ytanknjpcgceccaa
open Go Go.AM
set_option linter.unusedSimpArgs false
set_option maxRecDepth 100000
attribute [local irreducible] WOps WV WH WSt WNil WPick WGd
theorem dec_dat {xs ys : List Int} {d e : List Value} (hx : d = xs.map (Value.int .u8)) (hy : e = ys.map (Value.int .u8)) (hs : ∃ s, d = strB s) (ht : ∃ t, e = strB t) : decide (xs = ys) = ((strS d).data.toList == (strS e).data.toList) := by
  obtain ⟨s, hs⟩ := hs
  obtain ⟨t, ht⟩ := ht
  rw [Bool.eq_iff_iff, decide_eq_true_iff, beq_iff_eq]
  constructor
  · rintro rfl
    rw [hx, hy]
  · intro h
    rw [hs, ht, strS_str, strS_str] at h
    have h := bytes_inj h
    have : xs.map (Value.int .u8) = ys.map (Value.int .u8) := by rw [← hx, ← hy, hs, ht, h]
    exact (List.map_inj_right (fun a b e => by injection e)).1 this
set_option maxHeartbeats 8000000 in
theorem sameRes_am (a b : RR) (us bs : List Int) (h : Heap) (ha : ∃ x n c, a.dv = .slice x n c) (hae : ∃ x n c, a.ev = .slice x n c) (hb : ∃ x n c, b.dv = .slice x n c) (hbe : ∃ x n c, b.ev = .slice x n c) (ra : Row h a.dv a.data) (rb : Row h b.dv b.data) (rea : RowS h 20 a.ev (a.ents.map EN.cells)) (reb : RowS h 20 b.ev (b.ents.map EN.cells)) (ea : a.data = us.map (Value.int .u8)) (eb : b.data = bs.map (Value.int .u8)) (sa : ∃ s, a.data = strB s) (sb : ∃ s, b.data = strB s) (hd : us.length ≤ 9223372036854775807) (hm : a.ents.length ≤ 9223372036854775807) :
    Cl Try.prog 16 [.agg a.cells.toArray, .agg b.cells.toArray] h fun v h' => v = .bool (a.eq b) ∧ Same h h' noS := by
  refine Cl.enter Try.func16 rfl _ Try.ntmps16 (by simp) ?_
  intro env hl ha
  have h0 : sl env 0 = .agg a.cells.toArray := ha 0 (by simp)
  have h1 : sl env 1 = .agg b.cells.toArray := ha 1 (by simp)
  clear ha
  have oneA : a.cells.all Value.oneCell' = true := a.one ha hae
  have oneB : b.cells.all Value.oneCell' = true := b.one hb hbe
  have xa : aBox h 42 (.agg a.cells.toArray) = some (pt h.next 0, h.push (.cells a.cells TRes false)) := by simp [aBox, aNew, Value.cells, oneA]
  have xb : aBox (h.push (.cells a.cells TRes false)) 42 (.agg b.cells.toArray) = some (pt (h.push (.cells a.cells TRes false)).next 0, (h.push (.cells a.cells TRes false)).push (.cells b.cells TRes false)) := by simp [aBox, aNew, Value.cells, oneB]
  have sm : Same h ((h.push (.cells a.cells TRes false)).push (.cells b.cells TRes false)) noS := (Same.push _ _ _).trans (Same.push _ _ _) (fun _ x => x) (fun _ _ x => x)
  have ga : ((h.push (.cells a.cells TRes false)).push (.cells b.cells TRes false)).get h.next = some (.cells a.cells TRes false) := Heap.get_push_old Heap.get_push_new
  have gb : ((h.push (.cells a.cells TRes false)).push (.cells b.cells TRes false)).get (h.push (.cells a.cells TRes false)).next = some (.cells b.cells TRes false) := Heap.get_push_new
  generalize hh2 : (h.push (.cells a.cells TRes false)).push (.cells b.cells TRes false) = h2 at xb sm ga gb
  generalize (h.push (.cells a.cells TRes false)).next = kb at xb gb
  generalize h.push (.cells a.cells TRes false) = h1' at xa xb
  generalize h.next = ka at xa ga
  have la := ldRR ga
  have lb := ldRR gb
  replace rea := rea.same sm (fun _ _ _ _ _ x => x)
  replace reb := reb.same sm (fun _ _ _ _ _ x => x)
  replace ra := ra.same sm (fun _ _ _ _ _ x => x)
  replace rb := rb.same sm (fun _ _ _ _ _ x => x)
  clear hh2 ga gb
  have dd := dec_dat ea eb sa sb
  rw [ea] at ra
  rw [eb] at rb
  cases e0 : (a.status == b.status)
  · skip
    repeat (first | (with_reducible refine Wp.st ?_; simp only [wS]) | with_reducible refine Wp.drawS (by decide +kernel) ?_ | simp (disch := (first | (simp only [List.length_set, hl]; omega) | omega | rfl)) only [walkA, walkB, bne_self_eq_false, beq_self_eq_true, Option.map_some, Option.map_none, reduceIte, decide_true, decide_false, Int.reduceLT, Int.reduceLE, Int.reduceMul, Int.reduceAdd, Int.reduceSub, List.append_eq, List.cons_append, List.nil_append, h0, h1, xa, xb, la, lb, bin_str, bin_boolE, bin_PO, bin_WC, faQ0, faQ1, faQ2, faQ3, faQ4, faQ5, faQ6, faQ7, faQ8, faQ9, faQ10, faQ11, faQ12, faQ13, faQ14, faQ15, faQ16, faQ17, faQ18, faQ19, faQ20, faQ21, e0])
    simp (disch := (first | (simp only [List.length_set, hl]; omega) | omega | rfl)) only [aRes_one Try.results16, sL]
    exact ⟨by simp [RR.eq, e0], sm⟩
  cases e1 : a.obj.eq b.obj
  · skip
    repeat (first | (with_reducible refine Wp.st ?_; simp only [wS]) | with_reducible refine Wp.drawS (by decide +kernel) ?_ | simp (disch := (first | (simp only [List.length_set, hl]; omega) | omega | rfl)) only [walkA, walkB, bne_self_eq_false, beq_self_eq_true, Option.map_some, Option.map_none, reduceIte, decide_true, decide_false, Int.reduceLT, Int.reduceLE, Int.reduceMul, Int.reduceAdd, Int.reduceSub, List.append_eq, List.cons_append, List.nil_append, h0, h1, xa, xb, la, lb, bin_str, bin_boolE, bin_PO, bin_WC, faQ0, faQ1, faQ2, faQ3, faQ4, faQ5, faQ6, faQ7, faQ8, faQ9, faQ10, faQ11, faQ12, faQ13, faQ14, faQ15, faQ16, faQ17, faQ18, faQ19, faQ20, faQ21, e0, e1])
    simp (disch := (first | (simp only [List.length_set, hl]; omega) | omega | rfl)) only [aRes_one Try.results16, sL]
    exact ⟨by simp [RR.eq, e0, e1], sm⟩
  cases e2 : a.dir.eq b.dir
  · skip
    repeat (first | (with_reducible refine Wp.st ?_; simp only [wS]) | with_reducible refine Wp.drawS (by decide +kernel) ?_ | simp (disch := (first | (simp only [List.length_set, hl]; omega) | omega | rfl)) only [walkA, walkB, bne_self_eq_false, beq_self_eq_true, Option.map_some, Option.map_none, reduceIte, decide_true, decide_false, Int.reduceLT, Int.reduceLE, Int.reduceMul, Int.reduceAdd, Int.reduceSub, List.append_eq, List.cons_append, List.nil_append, h0, h1, xa, xb, la, lb, bin_str, bin_boolE, bin_PO, bin_WC, faQ0, faQ1, faQ2, faQ3, faQ4, faQ5, faQ6, faQ7, faQ8, faQ9, faQ10, faQ11, faQ12, faQ13, faQ14, faQ15, faQ16, faQ17, faQ18, faQ19, faQ20, faQ21, e0, e1, e2])
    simp (disch := (first | (simp only [List.length_set, hl]; omega) | omega | rfl)) only [aRes_one Try.results16, sL]
    exact ⟨by simp [RR.eq, e0, e1, e2], sm⟩
  cases e3 : a.before.eq b.before
  · skip
    repeat (first | (with_reducible refine Wp.st ?_; simp only [wS]) | with_reducible refine Wp.drawS (by decide +kernel) ?_ | simp (disch := (first | (simp only [List.length_set, hl]; omega) | omega | rfl)) only [walkA, walkB, bne_self_eq_false, beq_self_eq_true, Option.map_some, Option.map_none, reduceIte, decide_true, decide_false, Int.reduceLT, Int.reduceLE, Int.reduceMul, Int.reduceAdd, Int.reduceSub, List.append_eq, List.cons_append, List.nil_append, h0, h1, xa, xb, la, lb, bin_str, bin_boolE, bin_PO, bin_WC, faQ0, faQ1, faQ2, faQ3, faQ4, faQ5, faQ6, faQ7, faQ8, faQ9, faQ10, faQ11, faQ12, faQ13, faQ14, faQ15, faQ16, faQ17, faQ18, faQ19, faQ20, faQ21, e0, e1, e2, e3])
    simp (disch := (first | (simp only [List.length_set, hl]; omega) | omega | rfl)) only [aRes_one Try.results16, sL]
    exact ⟨by simp [RR.eq, e0, e1, e2, e3], sm⟩
  cases e4 : a.toBefore.eq b.toBefore
  · skip
    repeat (first | (with_reducible refine Wp.st ?_; simp only [wS]) | with_reducible refine Wp.drawS (by decide +kernel) ?_ | simp (disch := (first | (simp only [List.length_set, hl]; omega) | omega | rfl)) only [walkA, walkB, bne_self_eq_false, beq_self_eq_true, Option.map_some, Option.map_none, reduceIte, decide_true, decide_false, Int.reduceLT, Int.reduceLE, Int.reduceMul, Int.reduceAdd, Int.reduceSub, List.append_eq, List.cons_append, List.nil_append, h0, h1, xa, xb, la, lb, bin_str, bin_boolE, bin_PO, bin_WC, faQ0, faQ1, faQ2, faQ3, faQ4, faQ5, faQ6, faQ7, faQ8, faQ9, faQ10, faQ11, faQ12, faQ13, faQ14, faQ15, faQ16, faQ17, faQ18, faQ19, faQ20, faQ21, e0, e1, e2, e3, e4])
    simp (disch := (first | (simp only [List.length_set, hl]; omega) | omega | rfl)) only [aRes_one Try.results16, sL]
    exact ⟨by simp [RR.eq, e0, e1, e2, e3, e4], sm⟩
  cases e5 : a.after.eq b.after
  · skip
    repeat (first | (with_reducible refine Wp.st ?_; simp only [wS]) | with_reducible refine Wp.drawS (by decide +kernel) ?_ | simp (disch := (first | (simp only [List.length_set, hl]; omega) | omega | rfl)) only [walkA, walkB, bne_self_eq_false, beq_self_eq_true, Option.map_some, Option.map_none, reduceIte, decide_true, decide_false, Int.reduceLT, Int.reduceLE, Int.reduceMul, Int.reduceAdd, Int.reduceSub, List.append_eq, List.cons_append, List.nil_append, h0, h1, xa, xb, la, lb, bin_str, bin_boolE, bin_PO, bin_WC, faQ0, faQ1, faQ2, faQ3, faQ4, faQ5, faQ6, faQ7, faQ8, faQ9, faQ10, faQ11, faQ12, faQ13, faQ14, faQ15, faQ16, faQ17, faQ18, faQ19, faQ20, faQ21, e0, e1, e2, e3, e4, e5])
    simp (disch := (first | (simp only [List.length_set, hl]; omega) | omega | rfl)) only [aRes_one Try.results16, sL]
    exact ⟨by simp [RR.eq, e0, e1, e2, e3, e4, e5], sm⟩
  cases e6 : a.toAfter.eq b.toAfter
  · skip
    repeat (first | (with_reducible refine Wp.st ?_; simp only [wS]) | with_reducible refine Wp.drawS (by decide +kernel) ?_ | simp (disch := (first | (simp only [List.length_set, hl]; omega) | omega | rfl)) only [walkA, walkB, bne_self_eq_false, beq_self_eq_true, Option.map_some, Option.map_none, reduceIte, decide_true, decide_false, Int.reduceLT, Int.reduceLE, Int.reduceMul, Int.reduceAdd, Int.reduceSub, List.append_eq, List.cons_append, List.nil_append, h0, h1, xa, xb, la, lb, bin_str, bin_boolE, bin_PO, bin_WC, faQ0, faQ1, faQ2, faQ3, faQ4, faQ5, faQ6, faQ7, faQ8, faQ9, faQ10, faQ11, faQ12, faQ13, faQ14, faQ15, faQ16, faQ17, faQ18, faQ19, faQ20, faQ21, e0, e1, e2, e3, e4, e5, e6])
    simp (disch := (first | (simp only [List.length_set, hl]; omega) | omega | rfl)) only [aRes_one Try.results16, sL]
    exact ⟨by simp [RR.eq, e0, e1, e2, e3, e4, e5, e6], sm⟩
  cases e7 : (a.hasHandle == b.hasHandle)
  · skip
    repeat (first | (with_reducible refine Wp.st ?_; simp only [wS]) | with_reducible refine Wp.drawS (by decide +kernel) ?_ | simp (disch := (first | (simp only [List.length_set, hl]; omega) | omega | rfl)) only [walkA, walkB, bne_self_eq_false, beq_self_eq_true, Option.map_some, Option.map_none, reduceIte, decide_true, decide_false, Int.reduceLT, Int.reduceLE, Int.reduceMul, Int.reduceAdd, Int.reduceSub, List.append_eq, List.cons_append, List.nil_append, h0, h1, xa, xb, la, lb, bin_str, bin_boolE, bin_PO, bin_WC, faQ0, faQ1, faQ2, faQ3, faQ4, faQ5, faQ6, faQ7, faQ8, faQ9, faQ10, faQ11, faQ12, faQ13, faQ14, faQ15, faQ16, faQ17, faQ18, faQ19, faQ20, faQ21, e0, e1, e2, e3, e4, e5, e6, e7])
    simp (disch := (first | (simp only [List.length_set, hl]; omega) | omega | rfl)) only [aRes_one Try.results16, sL]
    exact ⟨by simp [RR.eq, e0, e1, e2, e3, e4, e5, e6, e7], sm⟩
  cases e8 : (a.handle.data.toList == b.handle.data.toList)
  · skip
    repeat (first | (with_reducible refine Wp.st ?_; simp only [wS]) | with_reducible refine Wp.drawS (by decide +kernel) ?_ | simp (disch := (first | (simp only [List.length_set, hl]; omega) | omega | rfl)) only [walkA, walkB, bne_self_eq_false, beq_self_eq_true, Option.map_some, Option.map_none, reduceIte, decide_true, decide_false, Int.reduceLT, Int.reduceLE, Int.reduceMul, Int.reduceAdd, Int.reduceSub, List.append_eq, List.cons_append, List.nil_append, h0, h1, xa, xb, la, lb, bin_str, bin_boolE, bin_PO, bin_WC, faQ0, faQ1, faQ2, faQ3, faQ4, faQ5, faQ6, faQ7, faQ8, faQ9, faQ10, faQ11, faQ12, faQ13, faQ14, faQ15, faQ16, faQ17, faQ18, faQ19, faQ20, faQ21, e0, e1, e2, e3, e4, e5, e6, e7, e8])
    simp (disch := (first | (simp only [List.length_set, hl]; omega) | omega | rfl)) only [aRes_one Try.results16, sL]
    exact ⟨by simp [RR.eq, e0, e1, e2, e3, e4, e5, e6, e7, e8], sm⟩
  cases e9 : (a.access == b.access)
  · skip
    repeat (first | (with_reducible refine Wp.st ?_; simp only [wS]) | with_reducible refine Wp.drawS (by decide +kernel) ?_ | simp (disch := (first | (simp only [List.length_set, hl]; omega) | omega | rfl)) only [walkA, walkB, bne_self_eq_false, beq_self_eq_true, Option.map_some, Option.map_none, reduceIte, decide_true, decide_false, Int.reduceLT, Int.reduceLE, Int.reduceMul, Int.reduceAdd, Int.reduceSub, List.append_eq, List.cons_append, List.nil_append, h0, h1, xa, xb, la, lb, bin_str, bin_boolE, bin_PO, bin_WC, faQ0, faQ1, faQ2, faQ3, faQ4, faQ5, faQ6, faQ7, faQ8, faQ9, faQ10, faQ11, faQ12, faQ13, faQ14, faQ15, faQ16, faQ17, faQ18, faQ19, faQ20, faQ21, e0, e1, e2, e3, e4, e5, e6, e7, e8, e9])
    simp (disch := (first | (simp only [List.length_set, hl]; omega) | omega | rfl)) only [aRes_one Try.results16, sL]
    exact ⟨by simp [RR.eq, e0, e1, e2, e3, e4, e5, e6, e7, e8, e9], sm⟩
  cases e10 : (a.path.data.toList == b.path.data.toList)
  · skip
    repeat (first | (with_reducible refine Wp.st ?_; simp only [wS]) | with_reducible refine Wp.drawS (by decide +kernel) ?_ | simp (disch := (first | (simp only [List.length_set, hl]; omega) | omega | rfl)) only [walkA, walkB, bne_self_eq_false, beq_self_eq_true, Option.map_some, Option.map_none, reduceIte, decide_true, decide_false, Int.reduceLT, Int.reduceLE, Int.reduceMul, Int.reduceAdd, Int.reduceSub, List.append_eq, List.cons_append, List.nil_append, h0, h1, xa, xb, la, lb, bin_str, bin_boolE, bin_PO, bin_WC, faQ0, faQ1, faQ2, faQ3, faQ4, faQ5, faQ6, faQ7, faQ8, faQ9, faQ10, faQ11, faQ12, faQ13, faQ14, faQ15, faQ16, faQ17, faQ18, faQ19, faQ20, faQ21, e0, e1, e2, e3, e4, e5, e6, e7, e8, e9, e10])
    simp (disch := (first | (simp only [List.length_set, hl]; omega) | omega | rfl)) only [aRes_one Try.results16, sL]
    exact ⟨by simp [RR.eq, e0, e1, e2, e3, e4, e5, e6, e7, e8, e9, e10], sm⟩
  cases e11 : (a.count == b.count)
  · skip
    repeat (first | (with_reducible refine Wp.st ?_; simp only [wS]) | with_reducible refine Wp.drawS (by decide +kernel) ?_ | simp (disch := (first | (simp only [List.length_set, hl]; omega) | omega | rfl)) only [walkA, walkB, bne_self_eq_false, beq_self_eq_true, Option.map_some, Option.map_none, reduceIte, decide_true, decide_false, Int.reduceLT, Int.reduceLE, Int.reduceMul, Int.reduceAdd, Int.reduceSub, List.append_eq, List.cons_append, List.nil_append, h0, h1, xa, xb, la, lb, bin_str, bin_boolE, bin_PO, bin_WC, faQ0, faQ1, faQ2, faQ3, faQ4, faQ5, faQ6, faQ7, faQ8, faQ9, faQ10, faQ11, faQ12, faQ13, faQ14, faQ15, faQ16, faQ17, faQ18, faQ19, faQ20, faQ21, e0, e1, e2, e3, e4, e5, e6, e7, e8, e9, e10, e11])
    simp (disch := (first | (simp only [List.length_set, hl]; omega) | omega | rfl)) only [aRes_one Try.results16, sL]
    exact ⟨by simp [RR.eq, e0, e1, e2, e3, e4, e5, e6, e7, e8, e9, e10, e11], sm⟩
  cases e12 : (a.eof == b.eof)
  · skip
    repeat (first | (with_reducible refine Wp.st ?_; simp only [wS]) | with_reducible refine Wp.drawS (by decide +kernel) ?_ | simp (disch := (first | (simp only [List.length_set, hl]; omega) | omega | rfl)) only [walkA, walkB, bne_self_eq_false, beq_self_eq_true, Option.map_some, Option.map_none, reduceIte, decide_true, decide_false, Int.reduceLT, Int.reduceLE, Int.reduceMul, Int.reduceAdd, Int.reduceSub, List.append_eq, List.cons_append, List.nil_append, h0, h1, xa, xb, la, lb, bin_str, bin_boolE, bin_PO, bin_WC, faQ0, faQ1, faQ2, faQ3, faQ4, faQ5, faQ6, faQ7, faQ8, faQ9, faQ10, faQ11, faQ12, faQ13, faQ14, faQ15, faQ16, faQ17, faQ18, faQ19, faQ20, faQ21, e0, e1, e2, e3, e4, e5, e6, e7, e8, e9, e10, e11, e12])
    simp (disch := (first | (simp only [List.length_set, hl]; omega) | omega | rfl)) only [aRes_one Try.results16, sL]
    exact ⟨by simp [RR.eq, e0, e1, e2, e3, e4, e5, e6, e7, e8, e9, e10, e11, e12], sm⟩
  repeat (first | (with_reducible refine Wp.st ?_; simp only [wS]) | with_reducible refine Wp.drawS (by decide +kernel) ?_ | simp (disch := (first | (simp only [List.length_set, hl]; omega) | omega | rfl)) only [walkA, walkB, bne_self_eq_false, beq_self_eq_true, Option.map_some, Option.map_none, reduceIte, decide_true, decide_false, Int.reduceLT, Int.reduceLE, Int.reduceMul, Int.reduceAdd, Int.reduceSub, List.append_eq, List.cons_append, List.nil_append, h0, h1, xa, xb, la, lb, bin_str, bin_boolE, bin_PO, bin_WC, faQ0, faQ1, faQ2, faQ3, faQ4, faQ5, faQ6, faQ7, faQ8, faQ9, faQ10, faQ11, faQ12, faQ13, faQ14, faQ15, faQ16, faQ17, faQ18, faQ19, faQ20, faQ21, e0, e1, e2, e3, e4, e5, e6, e7, e8, e9, e10, e11, e12])
  refine Cl.pure (equalB_am a.dv b.dv us bs _ ra rb hd) ?_
  rw [dd]
  cases e13 : ((strS a.data).data.toList == (strS b.data).data.toList)
  · skip
    repeat (first | (with_reducible refine Wp.st ?_; simp only [wS]) | with_reducible refine Wp.drawS (by decide +kernel) ?_ | simp (disch := (first | (simp only [List.length_set, hl]; omega) | omega | rfl)) only [walkA, walkB, bne_self_eq_false, beq_self_eq_true, Option.map_some, Option.map_none, reduceIte, decide_true, decide_false, Int.reduceLT, Int.reduceLE, Int.reduceMul, Int.reduceAdd, Int.reduceSub, List.append_eq, List.cons_append, List.nil_append, h0, h1, xa, xb, la, lb, bin_str, bin_boolE, bin_PO, bin_WC, faQ0, faQ1, faQ2, faQ3, faQ4, faQ5, faQ6, faQ7, faQ8, faQ9, faQ10, faQ11, faQ12, faQ13, faQ14, faQ15, faQ16, faQ17, faQ18, faQ19, faQ20, faQ21, e0, e1, e2, e3, e4, e5, e6, e7, e8, e9, e10, e11, e12, e13])
    simp (disch := (first | (simp only [List.length_set, hl]; omega) | omega | rfl)) only [aRes_one Try.results16, sL]
    exact ⟨by simp [RR.eq, e0, e1, e2, e3, e4, e5, e6, e7, e8, e9, e10, e11, e12, e13], sm⟩
  cases e14 : (a.committed == b.committed)
  · skip
    repeat (first | (with_reducible refine Wp.st ?_; simp only [wS]) | with_reducible refine Wp.drawS (by decide +kernel) ?_ | simp (disch := (first | (simp only [List.length_set, hl]; omega) | omega | rfl)) only [walkA, walkB, bne_self_eq_false, beq_self_eq_true, Option.map_some, Option.map_none, reduceIte, decide_true, decide_false, Int.reduceLT, Int.reduceLE, Int.reduceMul, Int.reduceAdd, Int.reduceSub, List.append_eq, List.cons_append, List.nil_append, h0, h1, xa, xb, la, lb, bin_str, bin_boolE, bin_PO, bin_WC, faQ0, faQ1, faQ2, faQ3, faQ4, faQ5, faQ6, faQ7, faQ8, faQ9, faQ10, faQ11, faQ12, faQ13, faQ14, faQ15, faQ16, faQ17, faQ18, faQ19, faQ20, faQ21, e0, e1, e2, e3, e4, e5, e6, e7, e8, e9, e10, e11, e12, e13, e14])
    simp (disch := (first | (simp only [List.length_set, hl]; omega) | omega | rfl)) only [aRes_one Try.results16, sL]
    exact ⟨by simp [RR.eq, e0, e1, e2, e3, e4, e5, e6, e7, e8, e9, e10, e11, e12, e13, e14], sm⟩
  cases e15 : (a.verf == b.verf)
  · skip
    repeat (first | (with_reducible refine Wp.st ?_; simp only [wS]) | with_reducible refine Wp.drawS (by decide +kernel) ?_ | simp (disch := (first | (simp only [List.length_set, hl]; omega) | omega | rfl)) only [walkA, walkB, bne_self_eq_false, beq_self_eq_true, Option.map_some, Option.map_none, reduceIte, decide_true, decide_false, Int.reduceLT, Int.reduceLE, Int.reduceMul, Int.reduceAdd, Int.reduceSub, List.append_eq, List.cons_append, List.nil_append, h0, h1, xa, xb, la, lb, bin_str, bin_boolE, bin_PO, bin_WC, faQ0, faQ1, faQ2, faQ3, faQ4, faQ5, faQ6, faQ7, faQ8, faQ9, faQ10, faQ11, faQ12, faQ13, faQ14, faQ15, faQ16, faQ17, faQ18, faQ19, faQ20, faQ21, e0, e1, e2, e3, e4, e5, e6, e7, e8, e9, e10, e11, e12, e13, e14, e15])
    simp (disch := (first | (simp only [List.length_set, hl]; omega) | omega | rfl)) only [aRes_one Try.results16, sL]
    exact ⟨by simp [RR.eq, e0, e1, e2, e3, e4, e5, e6, e7, e8, e9, e10, e11, e12, e13, e14, e15], sm⟩
  cases e16 : (a.cookieVerf == b.cookieVerf)
  · skip
    repeat (first | (with_reducible refine Wp.st ?_; simp only [wS]) | with_reducible refine Wp.drawS (by decide +kernel) ?_ | simp (disch := (first | (simp only [List.length_set, hl]; omega) | omega | rfl)) only [walkA, walkB, bne_self_eq_false, beq_self_eq_true, Option.map_some, Option.map_none, reduceIte, decide_true, decide_false, Int.reduceLT, Int.reduceLE, Int.reduceMul, Int.reduceAdd, Int.reduceSub, List.append_eq, List.cons_append, List.nil_append, h0, h1, xa, xb, la, lb, bin_str, bin_boolE, bin_PO, bin_WC, faQ0, faQ1, faQ2, faQ3, faQ4, faQ5, faQ6, faQ7, faQ8, faQ9, faQ10, faQ11, faQ12, faQ13, faQ14, faQ15, faQ16, faQ17, faQ18, faQ19, faQ20, faQ21, e0, e1, e2, e3, e4, e5, e6, e7, e8, e9, e10, e11, e12, e13, e14, e15, e16])
    simp (disch := (first | (simp only [List.length_set, hl]; omega) | omega | rfl)) only [aRes_one Try.results16, sL]
    exact ⟨by simp [RR.eq, e0, e1, e2, e3, e4, e5, e6, e7, e8, e9, e10, e11, e12, e13, e14, e15, e16], sm⟩
  repeat (first | (with_reducible refine Wp.st ?_; simp only [wS]) | with_reducible refine Wp.drawS (by decide +kernel) ?_ | simp (disch := (first | (simp only [List.length_set, hl]; omega) | omega | rfl)) only [walkA, walkB, bne_self_eq_false, beq_self_eq_true, Option.map_some, Option.map_none, reduceIte, decide_true, decide_false, Int.reduceLT, Int.reduceLE, Int.reduceMul, Int.reduceAdd, Int.reduceSub, List.append_eq, List.cons_append, List.nil_append, h0, h1, xa, xb, la, lb, bin_str, bin_boolE, bin_PO, bin_WC, faQ0, faQ1, faQ2, faQ3, faQ4, faQ5, faQ6, faQ7, faQ8, faQ9, faQ10, faQ11, faQ12, faQ13, faQ14, faQ15, faQ16, faQ17, faQ18, faQ19, faQ20, faQ21, e0, e1, e2, e3, e4, e5, e6, e7, e8, e9, e10, e11, e12, e13, e14, e15, e16])
  refine Cl.pure (equalE_am a.ev b.ev a.ents b.ents _ rea reb hm) ?_
  cases e17 : enEq a.ents b.ents
  · skip
    repeat (first | (with_reducible refine Wp.st ?_; simp only [wS]) | with_reducible refine Wp.drawS (by decide +kernel) ?_ | simp (disch := (first | (simp only [List.length_set, hl]; omega) | omega | rfl)) only [walkA, walkB, bne_self_eq_false, beq_self_eq_true, Option.map_some, Option.map_none, reduceIte, decide_true, decide_false, Int.reduceLT, Int.reduceLE, Int.reduceMul, Int.reduceAdd, Int.reduceSub, List.append_eq, List.cons_append, List.nil_append, h0, h1, xa, xb, la, lb, bin_str, bin_boolE, bin_PO, bin_WC, faQ0, faQ1, faQ2, faQ3, faQ4, faQ5, faQ6, faQ7, faQ8, faQ9, faQ10, faQ11, faQ12, faQ13, faQ14, faQ15, faQ16, faQ17, faQ18, faQ19, faQ20, faQ21, e0, e1, e2, e3, e4, e5, e6, e7, e8, e9, e10, e11, e12, e13, e14, e15, e16, e17])
    simp (disch := (first | (simp only [List.length_set, hl]; omega) | omega | rfl)) only [aRes_one Try.results16, sL]
    exact ⟨by simp [RR.eq, e0, e1, e2, e3, e4, e5, e6, e7, e8, e9, e10, e11, e12, e13, e14, e15, e16, e17], sm⟩
  cases e18 : (a.bytes == b.bytes)
  · skip
    repeat (first | (with_reducible refine Wp.st ?_; simp only [wS]) | with_reducible refine Wp.drawS (by decide +kernel) ?_ | simp (disch := (first | (simp only [List.length_set, hl]; omega) | omega | rfl)) only [walkA, walkB, bne_self_eq_false, beq_self_eq_true, Option.map_some, Option.map_none, reduceIte, decide_true, decide_false, Int.reduceLT, Int.reduceLE, Int.reduceMul, Int.reduceAdd, Int.reduceSub, List.append_eq, List.cons_append, List.nil_append, h0, h1, xa, xb, la, lb, bin_str, bin_boolE, bin_PO, bin_WC, faQ0, faQ1, faQ2, faQ3, faQ4, faQ5, faQ6, faQ7, faQ8, faQ9, faQ10, faQ11, faQ12, faQ13, faQ14, faQ15, faQ16, faQ17, faQ18, faQ19, faQ20, faQ21, e0, e1, e2, e3, e4, e5, e6, e7, e8, e9, e10, e11, e12, e13, e14, e15, e16, e17, e18])
    simp (disch := (first | (simp only [List.length_set, hl]; omega) | omega | rfl)) only [aRes_one Try.results16, sL]
    exact ⟨by simp [RR.eq, e0, e1, e2, e3, e4, e5, e6, e7, e8, e9, e10, e11, e12, e13, e14, e15, e16, e17, e18], sm⟩
  cases e19 : (a.freeBytes == b.freeBytes)
  · skip
    repeat (first | (with_reducible refine Wp.st ?_; simp only [wS]) | with_reducible refine Wp.drawS (by decide +kernel) ?_ | simp (disch := (first | (simp only [List.length_set, hl]; omega) | omega | rfl)) only [walkA, walkB, bne_self_eq_false, beq_self_eq_true, Option.map_some, Option.map_none, reduceIte, decide_true, decide_false, Int.reduceLT, Int.reduceLE, Int.reduceMul, Int.reduceAdd, Int.reduceSub, List.append_eq, List.cons_append, List.nil_append, h0, h1, xa, xb, la, lb, bin_str, bin_boolE, bin_PO, bin_WC, faQ0, faQ1, faQ2, faQ3, faQ4, faQ5, faQ6, faQ7, faQ8, faQ9, faQ10, faQ11, faQ12, faQ13, faQ14, faQ15, faQ16, faQ17, faQ18, faQ19, faQ20, faQ21, e0, e1, e2, e3, e4, e5, e6, e7, e8, e9, e10, e11, e12, e13, e14, e15, e16, e17, e18, e19])
    simp (disch := (first | (simp only [List.length_set, hl]; omega) | omega | rfl)) only [aRes_one Try.results16, sL]
    exact ⟨by simp [RR.eq, e0, e1, e2, e3, e4, e5, e6, e7, e8, e9, e10, e11, e12, e13, e14, e15, e16, e17, e18, e19], sm⟩
  cases e20 : (a.files == b.files)
  · skip
    repeat (first | (with_reducible refine Wp.st ?_; simp only [wS]) | with_reducible refine Wp.drawS (by decide +kernel) ?_ | simp (disch := (first | (simp only [List.length_set, hl]; omega) | omega | rfl)) only [walkA, walkB, bne_self_eq_false, beq_self_eq_true, Option.map_some, Option.map_none, reduceIte, decide_true, decide_false, Int.reduceLT, Int.reduceLE, Int.reduceMul, Int.reduceAdd, Int.reduceSub, List.append_eq, List.cons_append, List.nil_append, h0, h1, xa, xb, la, lb, bin_str, bin_boolE, bin_PO, bin_WC, faQ0, faQ1, faQ2, faQ3, faQ4, faQ5, faQ6, faQ7, faQ8, faQ9, faQ10, faQ11, faQ12, faQ13, faQ14, faQ15, faQ16, faQ17, faQ18, faQ19, faQ20, faQ21, e0, e1, e2, e3, e4, e5, e6, e7, e8, e9, e10, e11, e12, e13, e14, e15, e16, e17, e18, e19, e20])
    simp (disch := (first | (simp only [List.length_set, hl]; omega) | omega | rfl)) only [aRes_one Try.results16, sL]
    exact ⟨by simp [RR.eq, e0, e1, e2, e3, e4, e5, e6, e7, e8, e9, e10, e11, e12, e13, e14, e15, e16, e17, e18, e19, e20], sm⟩
  cases e21 : (a.freeFiles == b.freeFiles)
  · skip
    repeat (first | (with_reducible refine Wp.st ?_; simp only [wS]) | with_reducible refine Wp.drawS (by decide +kernel) ?_ | simp (disch := (first | (simp only [List.length_set, hl]; omega) | omega | rfl)) only [walkA, walkB, bne_self_eq_false, beq_self_eq_true, Option.map_some, Option.map_none, reduceIte, decide_true, decide_false, Int.reduceLT, Int.reduceLE, Int.reduceMul, Int.reduceAdd, Int.reduceSub, List.append_eq, List.cons_append, List.nil_append, h0, h1, xa, xb, la, lb, bin_str, bin_boolE, bin_PO, bin_WC, faQ0, faQ1, faQ2, faQ3, faQ4, faQ5, faQ6, faQ7, faQ8, faQ9, faQ10, faQ11, faQ12, faQ13, faQ14, faQ15, faQ16, faQ17, faQ18, faQ19, faQ20, faQ21, e0, e1, e2, e3, e4, e5, e6, e7, e8, e9, e10, e11, e12, e13, e14, e15, e16, e17, e18, e19, e20, e21])
    simp (disch := (first | (simp only [List.length_set, hl]; omega) | omega | rfl)) only [aRes_one Try.results16, sL]
    exact ⟨by simp [RR.eq, e0, e1, e2, e3, e4, e5, e6, e7, e8, e9, e10, e11, e12, e13, e14, e15, e16, e17, e18, e19, e20, e21], sm⟩
  repeat (first | (with_reducible refine Wp.st ?_; simp only [wS]) | with_reducible refine Wp.drawS (by decide +kernel) ?_ | simp (disch := (first | (simp only [List.length_set, hl]; omega) | omega | rfl)) only [walkA, walkB, bne_self_eq_false, beq_self_eq_true, Option.map_some, Option.map_none, reduceIte, decide_true, decide_false, Int.reduceLT, Int.reduceLE, Int.reduceMul, Int.reduceAdd, Int.reduceSub, List.append_eq, List.cons_append, List.nil_append, h0, h1, xa, xb, la, lb, bin_str, bin_boolE, bin_PO, bin_WC, faQ0, faQ1, faQ2, faQ3, faQ4, faQ5, faQ6, faQ7, faQ8, faQ9, faQ10, faQ11, faQ12, faQ13, faQ14, faQ15, faQ16, faQ17, faQ18, faQ19, faQ20, faQ21, e0, e1, e2, e3, e4, e5, e6, e7, e8, e9, e10, e11, e12, e13, e14, e15, e16, e17, e18, e19, e20, e21])
  simp (disch := (first | (simp only [List.length_set, hl]; omega) | omega | rfl)) only [aRes_one Try.results16, sL]
  exact ⟨by simp [RR.eq, e0, e1, e2, e3, e4, e5, e6, e7, e8, e9, e10, e11, e12, e13, e14, e15, e16, e17, e18, e19, e20, e21], sm⟩
end Go.Proofs.Ytanknjpcgceccaa

namespace Go.Proofs.Ytanknjpcgceccaa
open Go Go.AM Go.RowKit Go.ChangeShapes
set_option linter.unusedSimpArgs false
set_option maxRecDepth 100000
def kr (k : IntKind) (x : Int) : Prop := (Lit.int k x).wf = true
section
variable {H : Type} {h : Heap}
theorem ard_strM {P : Program} {n : Nat} {t : TypeId} {cs : List Value} {d : DataW H} (hu : P.underlying t = some .string) (r : ARd P h (n + 1) t cs d) : ∃ s, cs = [.string s] ∧ s.size ≤ Rows.uptoBulk d ∧ s.size ≤ 9223372036854775807 := by
  have r' := r
  unfold ARd at r'
  rw [hu] at r'
  obtain ⟨s, a, b, e⟩ := r'
  refine ⟨s, a, ?_, ?_⟩
  · rw [e]
    show s.data.size ≤ s.data.toList.length + 1
    simp
  · have : maxLen = 9223372036854775807 := by decide
    omega
theorem ard_sliceM {P : Program} {n : Nat} {t e : TypeId} {cs : List Value} {d : DataW H} (hu : P.underlying t = some (.slice e)) (r : ARd P h (n + 1) t cs d) :
    ∃ v rows, cs = [v] ∧ RowS h (P.cellsOf e) v rows ∧ inH h v ∧ (∃ a n c, v = .slice a n c) ∧ rows.length ≤ 9223372036854775807 ∧ rows.length ≤ Rows.uptoBulk d ∧ ∀ r ∈ rows, r.length = P.cellsOf e ∧ ∃ di : DataW H, ARd P h n e r di ∧ Rows.uptoBulk di ≤ Rows.uptoBulk d := by
  have mx : maxLen = 9223372036854775807 := by decide
  unfold ARd at r
  rw [hu] at r
  rcases r with ⟨rfl, _⟩ | ⟨sp, rfl, _⟩ | ⟨k, cap, cells, hl, es, sp, rfl, hne, h3, h4, h5, h6, h7, h8⟩
  · exact ⟨_, [], rfl, .inl ⟨rfl, rfl⟩, (by intro a n c hv; cases hv), ⟨_, _, _, rfl⟩, by simp, by simp, by simp⟩
  · refine ⟨_, [], rfl, .inr (.inl ⟨rfl, 0, 0, _, rfl⟩), ?_, ⟨_, _, _, rfl⟩, by simp, by simp, by simp⟩
    intro a n c hv hn
    unfold slE at hv
    injection hv with e1 e2 e3
    exact absurd e2.symm hn
  · refine ⟨_, (List.range es.length).map fun i => (cells.drop (i * P.cellsOf e)).take (P.cellsOf e), rfl, .inr (.inr ⟨k, 0, cap, cells, hl, true, by simp, h6, by rw [Nat.zero_add, List.length_map, List.length_range, h7, Nat.mul_comm]; omega, fun i hi => ?_⟩), ?_, ⟨_, _, _, rfl⟩, ?_, ?_, ?_⟩
    · simp [Nat.mul_comm]
    · intro a n c hv _
      injection hv with e1; injection e1 with e1; subst e1
      exact Heap.get_lt h6
    · rw [List.length_map, List.length_range]; omega
    · rw [List.length_map, List.length_range, h5]
      have := bulk_len es
      simp only [Rows.uptoBulk]; omega
    · intro r hr
      obtain ⟨i, hi, rfl⟩ := List.mem_map.1 hr
      have hi' := List.mem_range.1 hi
      have : (i + 1) * P.cellsOf e ≤ es.length * P.cellsOf e := Nat.mul_le_mul_right _ hi'
      rw [Nat.add_mul, Nat.one_mul] at this
      refine ⟨by rw [List.length_take, List.length_drop, h7]; omega, _, h8 i _ (List.getElem?_eq_getElem hi'), ?_⟩
      rw [h5]
      have : ∀ (l : List (DataW H)) (i : Nat) (hi : i < l.length), Rows.uptoBulk l[i] ≤ Rows.uptoBulkAll l := by
        intro l
        induction l with
        | nil => intro i hi; simp at hi
        | cons a l ih =>
          intro i hi
          cases i with
          | zero => simp only [List.getElem_cons_zero, Rows.uptoBulkAll]; omega
          | succ i =>
            have := ih i (by simpa using hi)
            simp only [List.getElem_cons_succ, Rows.uptoBulkAll]; omega
      have := this es i hi'
      simp only [Rows.uptoBulk]; omega
theorem ard_rowM {n : Nat} {cs : List Value} {d : DataW H} (r : ARd Try.prog h (n + 2) 22 cs d) : ∃ (v : Value) (s : ByteArray), cs = [v] ∧ Row h v (strB s) ∧ inH h v ∧ (∃ a n c, v = .slice a n c) ∧ (strB s).length ≤ Rows.uptoBulk d ∧ (strB s).length ≤ 9223372036854775807 := by
  obtain ⟨v, s, e, h1, h2, h3, h4⟩ := ard_row r
  obtain ⟨v', rows, e', h1', _, _, hm, _⟩ := ard_sliceM Try.underlying22 r
  refine ⟨v, s, e, h1, h2, h3, h4, ?_⟩
  rw [e] at e'
  injection e' with e'
  subst e'
  obtain ⟨a, c, hv⟩ := row_len h1
  rcases h1' with ⟨e1, e2⟩ | ⟨e2, k, off, c', e1⟩ | ⟨k, off, cap, cs', hl, ro, e1, _⟩
  · rw [hv] at e1; injection e1 with _ e1; omega
  · rw [hv] at e1; injection e1 with _ e1; omega
  · rw [hv] at e1; injection e1 with _ e1; omega
theorem ard_args_max {n : Nat} {a : AR} {d : DataW H} (r : ARd Try.prog h (n + 4) 30 a.cells d) (ra : Row h a.dv a.data) : a.data.length ≤ 9223372036854775807 := by
  unfold ARd at r
  rw [Try.underlying30] at r
  obtain ⟨ds, _, _, hd, hf⟩ := r
  have hd : ds.length = 22 := hd
  have f := hf 14 _ _ rfl (List.getElem?_eq_getElem (by omega))
  have z : Try.prog.cellsOf 22 = 1 := by kernel_rfl
  have f : ARd Try.prog h (n + 3) 22 ((a.cells.drop 28).take (Try.prog.cellsOf 22)) _ := f
  rw [z] at f
  have e : (a.cells.drop 28).take 1 = [a.dv] := rfl
  rw [e] at f
  obtain ⟨v, s, e, h1, _, _, _, h4⟩ := ard_rowM f
  injection e with e
  subst e
  obtain ⟨_, _, hv⟩ := row_len ra
  obtain ⟨_, _, hw⟩ := row_len h1
  rw [hv] at hw; injection hw with _ hw
  omega
structure AT.WF (x : AT) : Prop where
  type : kr .i64 x.type
  mode : kr .i64 x.mode
  nlink : kr .i64 x.nlink
  uid : u32r x.uid
  gid : u32r x.gid
  size : kr .u64 x.size
  used : kr .u64 x.used
  fileid : kr .u64 x.fileid
  a1 : u32r x.a1
  a2 : u32r x.a2
  m1 : u32r x.m1
  m2 : u32r x.m2
  c1 : u32r x.c1
  c2 : u32r x.c2
set_option maxHeartbeats 2000000 in
theorem ard_attr {n : Nat} {cs : List Value} {d : DataW H} (r : ARd Try.prog h (n + 3) 35 cs d) : ∃ x : AT, cs = x.cells ∧ x.WF := by
  unfold ARd at r
  rw [Try.underlying35] at r
  obtain ⟨ds, hag, hl, hd, hf⟩ := r
  have cz : Try.prog.cellsOf 35 = 14 := by kernel_rfl
  rw [cz] at hl
  have hdn : ds.length = 11 := hd
  obtain ⟨c0, tc0, rfl, hl_0⟩ := len_succ hl
  obtain ⟨c1, tc1, rfl, hl_1⟩ := len_succ hl_0
  obtain ⟨c2, tc2, rfl, hl_2⟩ := len_succ hl_1
  obtain ⟨c3, tc3, rfl, hl_3⟩ := len_succ hl_2
  obtain ⟨c4, tc4, rfl, hl_4⟩ := len_succ hl_3
  obtain ⟨c5, tc5, rfl, hl_5⟩ := len_succ hl_4
  obtain ⟨c6, tc6, rfl, hl_6⟩ := len_succ hl_5
  obtain ⟨c7, tc7, rfl, hl_7⟩ := len_succ hl_6
  obtain ⟨c8, tc8, rfl, hl_8⟩ := len_succ hl_7
  obtain ⟨c9, tc9, rfl, hl_9⟩ := len_succ hl_8
  obtain ⟨c10, tc10, rfl, hl_10⟩ := len_succ hl_9
  obtain ⟨c11, tc11, rfl, hl_11⟩ := len_succ hl_10
  obtain ⟨c12, tc12, rfl, hl_12⟩ := len_succ hl_11
  obtain ⟨c13, tc13, rfl, hl_13⟩ := len_succ hl_12
  obtain rfl := List.eq_nil_of_length_eq_zero hl_13
  obtain ⟨d0, td0, rfl, hdn_0⟩ := len_succ hdn
  obtain ⟨d1, td1, rfl, hdn_1⟩ := len_succ hdn_0
  obtain ⟨d2, td2, rfl, hdn_2⟩ := len_succ hdn_1
  obtain ⟨d3, td3, rfl, hdn_3⟩ := len_succ hdn_2
  obtain ⟨d4, td4, rfl, hdn_4⟩ := len_succ hdn_3
  obtain ⟨d5, td5, rfl, hdn_5⟩ := len_succ hdn_4
  obtain ⟨d6, td6, rfl, hdn_6⟩ := len_succ hdn_5
  obtain ⟨d7, td7, rfl, hdn_7⟩ := len_succ hdn_6
  obtain ⟨d8, td8, rfl, hdn_8⟩ := len_succ hdn_7
  obtain ⟨d9, td9, rfl, hdn_9⟩ := len_succ hdn_8
  obtain ⟨d10, td10, rfl, hdn_10⟩ := len_succ hdn_9
  obtain rfl := List.eq_nil_of_length_eq_zero hdn_10
  · skip
    · skip
      have z_int : Try.prog.cellsOf 3 = 1 := by kernel_rfl
      have z_time : Try.prog.cellsOf 26 = 2 := by kernel_rfl
      have z_u32 : Try.prog.cellsOf 23 = 1 := by kernel_rfl
      have z_u64 : Try.prog.cellsOf 24 = 1 := by kernel_rfl
      have f0 : ARd Try.prog h (n + 2) 3 (([c0, c1, c2, c3, c4, c5, c6, c7, c8, c9, c10, c11, c12, c13].drop 0).take (Try.prog.cellsOf 3)) d0 := hf 0 _ d0 rfl rfl
      rw [z_int] at f0
      have f1 : ARd Try.prog h (n + 2) 3 (([c0, c1, c2, c3, c4, c5, c6, c7, c8, c9, c10, c11, c12, c13].drop 1).take (Try.prog.cellsOf 3)) d1 := hf 1 _ d1 rfl rfl
      rw [z_int] at f1
      have f2 : ARd Try.prog h (n + 2) 3 (([c0, c1, c2, c3, c4, c5, c6, c7, c8, c9, c10, c11, c12, c13].drop 2).take (Try.prog.cellsOf 3)) d2 := hf 2 _ d2 rfl rfl
      rw [z_int] at f2
      have f3 : ARd Try.prog h (n + 2) 23 (([c0, c1, c2, c3, c4, c5, c6, c7, c8, c9, c10, c11, c12, c13].drop 3).take (Try.prog.cellsOf 23)) d3 := hf 3 _ d3 rfl rfl
      rw [z_u32] at f3
      have f4 : ARd Try.prog h (n + 2) 23 (([c0, c1, c2, c3, c4, c5, c6, c7, c8, c9, c10, c11, c12, c13].drop 4).take (Try.prog.cellsOf 23)) d4 := hf 4 _ d4 rfl rfl
      rw [z_u32] at f4
      have f5 : ARd Try.prog h (n + 2) 24 (([c0, c1, c2, c3, c4, c5, c6, c7, c8, c9, c10, c11, c12, c13].drop 5).take (Try.prog.cellsOf 24)) d5 := hf 5 _ d5 rfl rfl
      rw [z_u64] at f5
      have f6 : ARd Try.prog h (n + 2) 24 (([c0, c1, c2, c3, c4, c5, c6, c7, c8, c9, c10, c11, c12, c13].drop 6).take (Try.prog.cellsOf 24)) d6 := hf 6 _ d6 rfl rfl
      rw [z_u64] at f6
      have f7 : ARd Try.prog h (n + 2) 24 (([c0, c1, c2, c3, c4, c5, c6, c7, c8, c9, c10, c11, c12, c13].drop 7).take (Try.prog.cellsOf 24)) d7 := hf 7 _ d7 rfl rfl
      rw [z_u64] at f7
      have f8 : ARd Try.prog h (n + 2) 26 (([c0, c1, c2, c3, c4, c5, c6, c7, c8, c9, c10, c11, c12, c13].drop 8).take (Try.prog.cellsOf 26)) d8 := hf 8 _ d8 rfl rfl
      rw [z_time] at f8
      have f9 : ARd Try.prog h (n + 2) 26 (([c0, c1, c2, c3, c4, c5, c6, c7, c8, c9, c10, c11, c12, c13].drop 10).take (Try.prog.cellsOf 26)) d9 := hf 9 _ d9 rfl rfl
      rw [z_time] at f9
      have f10 : ARd Try.prog h (n + 2) 26 (([c0, c1, c2, c3, c4, c5, c6, c7, c8, c9, c10, c11, c12, c13].drop 12).take (Try.prog.cellsOf 26)) d10 := hf 10 _ d10 rfl rfl
      rw [z_time] at f10
      obtain ⟨x0, e0, w0⟩ := ard_int Try.underlying3 f0
      injection e0 with e0
      subst e0
      obtain ⟨x1, e1, w1⟩ := ard_int Try.underlying3 f1
      injection e1 with e1
      subst e1
      obtain ⟨x2, e2, w2⟩ := ard_int Try.underlying3 f2
      injection e2 with e2
      subst e2
      obtain ⟨x3, e3, w3⟩ := ard_int Try.underlying23 f3
      injection e3 with e3
      subst e3
      replace w3 := wf_u32 w3
      obtain ⟨x4, e4, w4⟩ := ard_int Try.underlying23 f4
      injection e4 with e4
      subst e4
      replace w4 := wf_u32 w4
      obtain ⟨x5, e5, w5⟩ := ard_int Try.underlying24 f5
      injection e5 with e5
      subst e5
      obtain ⟨x6, e6, w6⟩ := ard_int Try.underlying24 f6
      injection e6 with e6
      subst e6
      obtain ⟨x7, e7, w7⟩ := ard_int Try.underlying24 f7
      injection e7 with e7
      subst e7
      obtain ⟨x8, y8, e8, w8, u8⟩ := ard_time f8
      have e8' : [c8, c9] = _ := e8
      injection e8' with p8 q8
      injection q8 with q8
      subst p8
      subst q8
      obtain ⟨x9, y9, e9, w9, u9⟩ := ard_time f9
      have e9' : [c10, c11] = _ := e9
      injection e9' with p9 q9
      injection q9 with q9
      subst p9
      subst q9
      obtain ⟨x10, y10, e10, w10, u10⟩ := ard_time f10
      have e10' : [c12, c13] = _ := e10
      injection e10' with p10 q10
      injection q10 with q10
      subst p10
      subst q10
      exact ⟨⟨x0, x1, x2, x3, x4, x5, x6, x7, x8, y8, x9, y9, x10, y10⟩, rfl, ⟨w0, w1, w2, w3, w4, w5, w6, w7, w8, u8, w9, u9, w10, u10⟩⟩
structure PO.WF (x : PO) : Prop where
  att : x.att.WF
set_option maxHeartbeats 2000000 in
theorem ard_post {n : Nat} {cs : List Value} {d : DataW H} (r : ARd Try.prog h (n + 4) 37 cs d) : ∃ x : PO, cs = x.cells ∧ x.WF := by
  unfold ARd at r
  rw [Try.underlying37] at r
  obtain ⟨ds, hag, hl, hd, hf⟩ := r
  have cz : Try.prog.cellsOf 37 = 15 := by kernel_rfl
  rw [cz] at hl
  have hdn : ds.length = 2 := hd
  obtain ⟨c0, tc0, rfl, hl_0⟩ := len_succ hl
  obtain ⟨c1, tc1, rfl, hl_1⟩ := len_succ hl_0
  obtain ⟨c2, tc2, rfl, hl_2⟩ := len_succ hl_1
  obtain ⟨c3, tc3, rfl, hl_3⟩ := len_succ hl_2
  obtain ⟨c4, tc4, rfl, hl_4⟩ := len_succ hl_3
  obtain ⟨c5, tc5, rfl, hl_5⟩ := len_succ hl_4
  obtain ⟨c6, tc6, rfl, hl_6⟩ := len_succ hl_5
  obtain ⟨c7, tc7, rfl, hl_7⟩ := len_succ hl_6
  obtain ⟨c8, tc8, rfl, hl_8⟩ := len_succ hl_7
  obtain ⟨c9, tc9, rfl, hl_9⟩ := len_succ hl_8
  obtain ⟨c10, tc10, rfl, hl_10⟩ := len_succ hl_9
  obtain ⟨c11, tc11, rfl, hl_11⟩ := len_succ hl_10
  obtain ⟨c12, tc12, rfl, hl_12⟩ := len_succ hl_11
  obtain ⟨c13, tc13, rfl, hl_13⟩ := len_succ hl_12
  obtain ⟨c14, tc14, rfl, hl_14⟩ := len_succ hl_13
  obtain rfl := List.eq_nil_of_length_eq_zero hl_14
  obtain ⟨d0, td0, rfl, hdn_0⟩ := len_succ hdn
  obtain ⟨d1, td1, rfl, hdn_1⟩ := len_succ hdn_0
  obtain rfl := List.eq_nil_of_length_eq_zero hdn_1
  · skip
    · skip
      have z_AT : Try.prog.cellsOf 35 = 14 := by kernel_rfl
      have z_bool : Try.prog.cellsOf 4 = 1 := by kernel_rfl
      have f0 : ARd Try.prog h (n + 3) 4 (([c0, c1, c2, c3, c4, c5, c6, c7, c8, c9, c10, c11, c12, c13, c14].drop 0).take (Try.prog.cellsOf 4)) d0 := hf 0 _ d0 rfl rfl
      rw [z_bool] at f0
      have f1 : ARd Try.prog h (n + 3) 35 (([c0, c1, c2, c3, c4, c5, c6, c7, c8, c9, c10, c11, c12, c13, c14].drop 1).take (Try.prog.cellsOf 35)) d1 := hf 1 _ d1 rfl rfl
      rw [z_AT] at f1
      obtain ⟨x0, e0⟩ := ard_bool Try.underlying4 f0
      injection e0 with e0
      subst e0
      obtain ⟨x1, e1, w1⟩ := ard_attr f1
      have e1' : [c1, c2, c3, c4, c5, c6, c7, c8, c9, c10, c11, c12, c13, c14] = x1.cells := e1
      simp only [AT.cells, List.cons_append, List.nil_append, List.cons.injEq, and_true] at e1'
      obtain ⟨g1_0, g1_1, g1_2, g1_3, g1_4, g1_5, g1_6, g1_7, g1_8, g1_9, g1_10, g1_11, g1_12, g1_13⟩ := e1'
      subst g1_0
      subst g1_1
      subst g1_2
      subst g1_3
      subst g1_4
      subst g1_5
      subst g1_6
      subst g1_7
      subst g1_8
      subst g1_9
      subst g1_10
      subst g1_11
      subst g1_12
      subst g1_13
      exact ⟨⟨x0, x1⟩, rfl, ⟨w1⟩⟩
structure WC.WF (x : WC) : Prop where
  size : kr .u64 x.size
  m1 : u32r x.m1
  m2 : u32r x.m2
  c1 : u32r x.c1
  c2 : u32r x.c2
set_option maxHeartbeats 2000000 in
theorem ard_wcc {n : Nat} {cs : List Value} {d : DataW H} (r : ARd Try.prog h (n + 3) 39 cs d) : ∃ x : WC, cs = x.cells ∧ x.WF := by
  unfold ARd at r
  rw [Try.underlying39] at r
  obtain ⟨ds, hag, hl, hd, hf⟩ := r
  have cz : Try.prog.cellsOf 39 = 6 := by kernel_rfl
  rw [cz] at hl
  have hdn : ds.length = 4 := hd
  obtain ⟨c0, tc0, rfl, hl_0⟩ := len_succ hl
  obtain ⟨c1, tc1, rfl, hl_1⟩ := len_succ hl_0
  obtain ⟨c2, tc2, rfl, hl_2⟩ := len_succ hl_1
  obtain ⟨c3, tc3, rfl, hl_3⟩ := len_succ hl_2
  obtain ⟨c4, tc4, rfl, hl_4⟩ := len_succ hl_3
  obtain ⟨c5, tc5, rfl, hl_5⟩ := len_succ hl_4
  obtain rfl := List.eq_nil_of_length_eq_zero hl_5
  obtain ⟨d0, td0, rfl, hdn_0⟩ := len_succ hdn
  obtain ⟨d1, td1, rfl, hdn_1⟩ := len_succ hdn_0
  obtain ⟨d2, td2, rfl, hdn_2⟩ := len_succ hdn_1
  obtain ⟨d3, td3, rfl, hdn_3⟩ := len_succ hdn_2
  obtain rfl := List.eq_nil_of_length_eq_zero hdn_3
  · skip
    · skip
      have z_bool : Try.prog.cellsOf 4 = 1 := by kernel_rfl
      have z_time : Try.prog.cellsOf 26 = 2 := by kernel_rfl
      have z_u64 : Try.prog.cellsOf 24 = 1 := by kernel_rfl
      have f0 : ARd Try.prog h (n + 2) 4 (([c0, c1, c2, c3, c4, c5].drop 0).take (Try.prog.cellsOf 4)) d0 := hf 0 _ d0 rfl rfl
      rw [z_bool] at f0
      have f1 : ARd Try.prog h (n + 2) 24 (([c0, c1, c2, c3, c4, c5].drop 1).take (Try.prog.cellsOf 24)) d1 := hf 1 _ d1 rfl rfl
      rw [z_u64] at f1
      have f2 : ARd Try.prog h (n + 2) 26 (([c0, c1, c2, c3, c4, c5].drop 2).take (Try.prog.cellsOf 26)) d2 := hf 2 _ d2 rfl rfl
      rw [z_time] at f2
      have f3 : ARd Try.prog h (n + 2) 26 (([c0, c1, c2, c3, c4, c5].drop 4).take (Try.prog.cellsOf 26)) d3 := hf 3 _ d3 rfl rfl
      rw [z_time] at f3
      obtain ⟨x0, e0⟩ := ard_bool Try.underlying4 f0
      injection e0 with e0
      subst e0
      obtain ⟨x1, e1, w1⟩ := ard_int Try.underlying24 f1
      injection e1 with e1
      subst e1
      obtain ⟨x2, y2, e2, w2, u2⟩ := ard_time f2
      have e2' : [c2, c3] = _ := e2
      injection e2' with p2 q2
      injection q2 with q2
      subst p2
      subst q2
      obtain ⟨x3, y3, e3, w3, u3⟩ := ard_time f3
      have e3' : [c4, c5] = _ := e3
      injection e3' with p3 q3
      injection q3 with q3
      subst p3
      subst q3
      exact ⟨⟨x0, x1, x2, y2, x3, y3⟩, rfl, ⟨w1, w2, u2, w3, u3⟩⟩
structure EN.WF (x : EN) : Prop where
  fileid : kr .u64 x.fileid
  name : x.name.size ≤ 9223372036854775807
  cookie : kr .u64 x.cookie
  attr : x.attr.WF
  handle : x.handle.size ≤ 9223372036854775807
set_option maxHeartbeats 2000000 in
theorem ard_entry {n : Nat} {cs : List Value} {d : DataW H} (r : ARd Try.prog h (n + 5) 105 cs d) : ∃ x : EN, cs = x.cells ∧ x.WF ∧ x.name.size ≤ Rows.uptoBulk d ∧ x.handle.size ≤ Rows.uptoBulk d := by
  unfold ARd at r
  rw [Try.underlying105] at r
  obtain ⟨ds, hag, hl, hd, hf⟩ := r
  have cz : Try.prog.cellsOf 105 = 20 := by kernel_rfl
  rw [cz] at hl
  have hdn : ds.length = 6 := hd
  obtain ⟨c0, tc0, rfl, hl_0⟩ := len_succ hl
  obtain ⟨c1, tc1, rfl, hl_1⟩ := len_succ hl_0
  obtain ⟨c2, tc2, rfl, hl_2⟩ := len_succ hl_1
  obtain ⟨c3, tc3, rfl, hl_3⟩ := len_succ hl_2
  obtain ⟨c4, tc4, rfl, hl_4⟩ := len_succ hl_3
  obtain ⟨c5, tc5, rfl, hl_5⟩ := len_succ hl_4
  obtain ⟨c6, tc6, rfl, hl_6⟩ := len_succ hl_5
  obtain ⟨c7, tc7, rfl, hl_7⟩ := len_succ hl_6
  obtain ⟨c8, tc8, rfl, hl_8⟩ := len_succ hl_7
  obtain ⟨c9, tc9, rfl, hl_9⟩ := len_succ hl_8
  obtain ⟨c10, tc10, rfl, hl_10⟩ := len_succ hl_9
  obtain ⟨c11, tc11, rfl, hl_11⟩ := len_succ hl_10
  obtain ⟨c12, tc12, rfl, hl_12⟩ := len_succ hl_11
  obtain ⟨c13, tc13, rfl, hl_13⟩ := len_succ hl_12
  obtain ⟨c14, tc14, rfl, hl_14⟩ := len_succ hl_13
  obtain ⟨c15, tc15, rfl, hl_15⟩ := len_succ hl_14
  obtain ⟨c16, tc16, rfl, hl_16⟩ := len_succ hl_15
  obtain ⟨c17, tc17, rfl, hl_17⟩ := len_succ hl_16
  obtain ⟨c18, tc18, rfl, hl_18⟩ := len_succ hl_17
  obtain ⟨c19, tc19, rfl, hl_19⟩ := len_succ hl_18
  obtain rfl := List.eq_nil_of_length_eq_zero hl_19
  obtain ⟨d0, td0, rfl, hdn_0⟩ := len_succ hdn
  obtain ⟨d1, td1, rfl, hdn_1⟩ := len_succ hdn_0
  obtain ⟨d2, td2, rfl, hdn_2⟩ := len_succ hdn_1
  obtain ⟨d3, td3, rfl, hdn_3⟩ := len_succ hdn_2
  obtain ⟨d4, td4, rfl, hdn_4⟩ := len_succ hdn_3
  obtain ⟨d5, td5, rfl, hdn_5⟩ := len_succ hdn_4
  obtain rfl := List.eq_nil_of_length_eq_zero hdn_5
  · skip
    · skip
      have z_PO : Try.prog.cellsOf 37 = 15 := by kernel_rfl
      have z_bool : Try.prog.cellsOf 4 = 1 := by kernel_rfl
      have z_str : Try.prog.cellsOf 9 = 1 := by kernel_rfl
      have z_u64 : Try.prog.cellsOf 24 = 1 := by kernel_rfl
      have f0 : ARd Try.prog h (n + 4) 24 (([c0, c1, c2, c3, c4, c5, c6, c7, c8, c9, c10, c11, c12, c13, c14, c15, c16, c17, c18, c19].drop 0).take (Try.prog.cellsOf 24)) d0 := hf 0 _ d0 rfl rfl
      rw [z_u64] at f0
      have f1 : ARd Try.prog h (n + 4) 9 (([c0, c1, c2, c3, c4, c5, c6, c7, c8, c9, c10, c11, c12, c13, c14, c15, c16, c17, c18, c19].drop 1).take (Try.prog.cellsOf 9)) d1 := hf 1 _ d1 rfl rfl
      rw [z_str] at f1
      have f2 : ARd Try.prog h (n + 4) 24 (([c0, c1, c2, c3, c4, c5, c6, c7, c8, c9, c10, c11, c12, c13, c14, c15, c16, c17, c18, c19].drop 2).take (Try.prog.cellsOf 24)) d2 := hf 2 _ d2 rfl rfl
      rw [z_u64] at f2
      have f3 : ARd Try.prog h (n + 4) 37 (([c0, c1, c2, c3, c4, c5, c6, c7, c8, c9, c10, c11, c12, c13, c14, c15, c16, c17, c18, c19].drop 3).take (Try.prog.cellsOf 37)) d3 := hf 3 _ d3 rfl rfl
      rw [z_PO] at f3
      have f4 : ARd Try.prog h (n + 4) 4 (([c0, c1, c2, c3, c4, c5, c6, c7, c8, c9, c10, c11, c12, c13, c14, c15, c16, c17, c18, c19].drop 18).take (Try.prog.cellsOf 4)) d4 := hf 4 _ d4 rfl rfl
      rw [z_bool] at f4
      have f5 : ARd Try.prog h (n + 4) 9 (([c0, c1, c2, c3, c4, c5, c6, c7, c8, c9, c10, c11, c12, c13, c14, c15, c16, c17, c18, c19].drop 19).take (Try.prog.cellsOf 9)) d5 := hf 5 _ d5 rfl rfl
      rw [z_str] at f5
      obtain ⟨x0, e0, w0⟩ := ard_int Try.underlying24 f0
      injection e0 with e0
      subst e0
      obtain ⟨x1, e1, b1, m1⟩ := ard_strM Try.underlying9 f1
      injection e1 with e1
      subst e1
      obtain ⟨x2, e2, w2⟩ := ard_int Try.underlying24 f2
      injection e2 with e2
      subst e2
      obtain ⟨x3, e3, w3⟩ := ard_post f3
      have e3' : [c3, c4, c5, c6, c7, c8, c9, c10, c11, c12, c13, c14, c15, c16, c17] = x3.cells := e3
      simp only [PO.cells, AT.cells, List.cons_append, List.nil_append, List.cons.injEq, and_true] at e3'
      obtain ⟨g3_0, g3_1, g3_2, g3_3, g3_4, g3_5, g3_6, g3_7, g3_8, g3_9, g3_10, g3_11, g3_12, g3_13, g3_14⟩ := e3'
      subst g3_0
      subst g3_1
      subst g3_2
      subst g3_3
      subst g3_4
      subst g3_5
      subst g3_6
      subst g3_7
      subst g3_8
      subst g3_9
      subst g3_10
      subst g3_11
      subst g3_12
      subst g3_13
      subst g3_14
      obtain ⟨x4, e4⟩ := ard_bool Try.underlying4 f4
      injection e4 with e4
      subst e4
      obtain ⟨x5, e5, b5, m5⟩ := ard_strM Try.underlying9 f5
      injection e5 with e5
      subst e5
      rw [hag]
      refine ⟨⟨x0, x1, x2, x3, x4, x5⟩, rfl, ⟨w0, m1, w2, w3, m5⟩, ?_, ?_⟩ <;> simp only [Rows.uptoBulk, Rows.uptoBulkAll] <;> omega
theorem ard_ents {n : Nat} {cs : List Value} {d : DataW H} (r : ARd Try.prog h (n + 6) 40 cs d) : ∃ (v : Value) (xs : List EN), cs = [v] ∧ RowS h 20 v (xs.map EN.cells) ∧ inH h v ∧ (∃ a n c, v = .slice a n c) ∧ xs.length ≤ 9223372036854775807 ∧ xs.length ≤ Rows.uptoBulk d ∧ (∀ x ∈ xs, x.WF) ∧ (∀ x ∈ xs, x.name.size ≤ Rows.uptoBulk d ∧ x.handle.size ≤ Rows.uptoBulk d) := by
  obtain ⟨v, rows, h1, h2, h3, h4, hm, hb, h5⟩ := ard_sliceM Try.underlying40 r
  have c5 : Try.prog.cellsOf 105 = 20 := by kernel_rfl
  rw [c5] at h2
  obtain ⟨xs, rfl, hi⟩ := list_lift EN.cells (fun x : EN => x.WF ∧ x.name.size ≤ Rows.uptoBulk d ∧ x.handle.size ≤ Rows.uptoBulk d) rows (fun r hr => by
    obtain ⟨_, di, hd, hl⟩ := h5 r hr
    obtain ⟨x, e, w, a, b⟩ := ard_entry hd
    exact ⟨x, e, w, by omega, by omega⟩)
  rw [List.length_map] at hm hb
  exact ⟨v, xs, h1, h2, h3, h4, hm, hb, fun x hx => (hi x hx).1, fun x hx => (hi x hx).2⟩
structure RR.Modest (x : RR) : Prop where
  handle : x.handle.size ≤ 1048576
  path : x.path.size ≤ 1048576
  data : x.data.length ≤ 1048576
  ents : x.ents.length ≤ 1048576
  each : ∀ e ∈ x.ents, e.name.size ≤ 1048576 ∧ e.handle.size ≤ 1048576
structure RR.WF (x : RR) : Prop where
  status : kr .i64 x.status
  obj : x.obj.WF
  dir : x.dir.WF
  before : x.before.WF
  toBefore : x.toBefore.WF
  after : x.after.WF
  toAfter : x.toAfter.WF
  handle : x.handle.size ≤ 9223372036854775807
  access : u32r x.access
  path : x.path.size ≤ 9223372036854775807
  count : u32r x.count
  dSl : ∃ a n c, x.dv = .slice a n c
  dStr : ∃ s, x.data = strB s
  dMax : x.data.length ≤ 9223372036854775807
  committed : kr .i64 x.committed
  verf : kr .u64 x.verf
  cookieVerf : kr .u64 x.cookieVerf
  eSl : ∃ a n c, x.ev = .slice a n c
  eMax : x.ents.length ≤ 9223372036854775807
  eWF : ∀ e ∈ x.ents, e.WF
  bytes : kr .u64 x.bytes
  freeBytes : kr .u64 x.freeBytes
  files : kr .u64 x.files
  freeFiles : kr .u64 x.freeFiles
set_option maxHeartbeats 2000000 in
theorem ard_res {n : Nat} {cs : List Value} {d : DataW H} (r : ARd Try.prog h (n + 7) 42 cs d) : ∃ x : RR, cs = x.cells ∧ x.WF ∧ Row h x.dv x.data ∧ inH h x.dv ∧ RowS h 20 x.ev (x.ents.map EN.cells) ∧ inH h x.ev ∧ (Rows.uptoBulk d ≤ 1048576 → x.Modest) := by
  unfold ARd at r
  rw [Try.underlying42] at r
  obtain ⟨ds, hag, hl, hd, hf⟩ := r
  have cz : Try.prog.cellsOf 42 = 88 := by kernel_rfl
  rw [cz] at hl
  have hdn : ds.length = 22 := hd
  obtain ⟨c0, tc0, rfl, hl_0⟩ := len_succ hl
  obtain ⟨c1, tc1, rfl, hl_1⟩ := len_succ hl_0
  obtain ⟨c2, tc2, rfl, hl_2⟩ := len_succ hl_1
  obtain ⟨c3, tc3, rfl, hl_3⟩ := len_succ hl_2
  obtain ⟨c4, tc4, rfl, hl_4⟩ := len_succ hl_3
  obtain ⟨c5, tc5, rfl, hl_5⟩ := len_succ hl_4
  obtain ⟨c6, tc6, rfl, hl_6⟩ := len_succ hl_5
  obtain ⟨c7, tc7, rfl, hl_7⟩ := len_succ hl_6
  obtain ⟨c8, tc8, rfl, hl_8⟩ := len_succ hl_7
  obtain ⟨c9, tc9, rfl, hl_9⟩ := len_succ hl_8
  obtain ⟨c10, tc10, rfl, hl_10⟩ := len_succ hl_9
  obtain ⟨c11, tc11, rfl, hl_11⟩ := len_succ hl_10
  obtain ⟨c12, tc12, rfl, hl_12⟩ := len_succ hl_11
  obtain ⟨c13, tc13, rfl, hl_13⟩ := len_succ hl_12
  obtain ⟨c14, tc14, rfl, hl_14⟩ := len_succ hl_13
  obtain ⟨c15, tc15, rfl, hl_15⟩ := len_succ hl_14
  obtain ⟨c16, tc16, rfl, hl_16⟩ := len_succ hl_15
  obtain ⟨c17, tc17, rfl, hl_17⟩ := len_succ hl_16
  obtain ⟨c18, tc18, rfl, hl_18⟩ := len_succ hl_17
  obtain ⟨c19, tc19, rfl, hl_19⟩ := len_succ hl_18
  obtain ⟨c20, tc20, rfl, hl_20⟩ := len_succ hl_19
  obtain ⟨c21, tc21, rfl, hl_21⟩ := len_succ hl_20
  obtain ⟨c22, tc22, rfl, hl_22⟩ := len_succ hl_21
  obtain ⟨c23, tc23, rfl, hl_23⟩ := len_succ hl_22
  obtain ⟨c24, tc24, rfl, hl_24⟩ := len_succ hl_23
  obtain ⟨c25, tc25, rfl, hl_25⟩ := len_succ hl_24
  obtain ⟨c26, tc26, rfl, hl_26⟩ := len_succ hl_25
  obtain ⟨c27, tc27, rfl, hl_27⟩ := len_succ hl_26
  obtain ⟨c28, tc28, rfl, hl_28⟩ := len_succ hl_27
  obtain ⟨c29, tc29, rfl, hl_29⟩ := len_succ hl_28
  obtain ⟨c30, tc30, rfl, hl_30⟩ := len_succ hl_29
  obtain ⟨c31, tc31, rfl, hl_31⟩ := len_succ hl_30
  obtain ⟨c32, tc32, rfl, hl_32⟩ := len_succ hl_31
  obtain ⟨c33, tc33, rfl, hl_33⟩ := len_succ hl_32
  obtain ⟨c34, tc34, rfl, hl_34⟩ := len_succ hl_33
  obtain ⟨c35, tc35, rfl, hl_35⟩ := len_succ hl_34
  obtain ⟨c36, tc36, rfl, hl_36⟩ := len_succ hl_35
  obtain ⟨c37, tc37, rfl, hl_37⟩ := len_succ hl_36
  obtain ⟨c38, tc38, rfl, hl_38⟩ := len_succ hl_37
  obtain ⟨c39, tc39, rfl, hl_39⟩ := len_succ hl_38
  obtain ⟨c40, tc40, rfl, hl_40⟩ := len_succ hl_39
  obtain ⟨c41, tc41, rfl, hl_41⟩ := len_succ hl_40
  obtain ⟨c42, tc42, rfl, hl_42⟩ := len_succ hl_41
  obtain ⟨c43, tc43, rfl, hl_43⟩ := len_succ hl_42
  obtain ⟨c44, tc44, rfl, hl_44⟩ := len_succ hl_43
  obtain ⟨c45, tc45, rfl, hl_45⟩ := len_succ hl_44
  obtain ⟨c46, tc46, rfl, hl_46⟩ := len_succ hl_45
  obtain ⟨c47, tc47, rfl, hl_47⟩ := len_succ hl_46
  obtain ⟨c48, tc48, rfl, hl_48⟩ := len_succ hl_47
  obtain ⟨c49, tc49, rfl, hl_49⟩ := len_succ hl_48
  obtain ⟨c50, tc50, rfl, hl_50⟩ := len_succ hl_49
  obtain ⟨c51, tc51, rfl, hl_51⟩ := len_succ hl_50
  obtain ⟨c52, tc52, rfl, hl_52⟩ := len_succ hl_51
  obtain ⟨c53, tc53, rfl, hl_53⟩ := len_succ hl_52
  obtain ⟨c54, tc54, rfl, hl_54⟩ := len_succ hl_53
  obtain ⟨c55, tc55, rfl, hl_55⟩ := len_succ hl_54
  obtain ⟨c56, tc56, rfl, hl_56⟩ := len_succ hl_55
  obtain ⟨c57, tc57, rfl, hl_57⟩ := len_succ hl_56
  obtain ⟨c58, tc58, rfl, hl_58⟩ := len_succ hl_57
  obtain ⟨c59, tc59, rfl, hl_59⟩ := len_succ hl_58
  obtain ⟨c60, tc60, rfl, hl_60⟩ := len_succ hl_59
  obtain ⟨c61, tc61, rfl, hl_61⟩ := len_succ hl_60
  obtain ⟨c62, tc62, rfl, hl_62⟩ := len_succ hl_61
  obtain ⟨c63, tc63, rfl, hl_63⟩ := len_succ hl_62
  obtain ⟨c64, tc64, rfl, hl_64⟩ := len_succ hl_63
  obtain ⟨c65, tc65, rfl, hl_65⟩ := len_succ hl_64
  obtain ⟨c66, tc66, rfl, hl_66⟩ := len_succ hl_65
  obtain ⟨c67, tc67, rfl, hl_67⟩ := len_succ hl_66
  obtain ⟨c68, tc68, rfl, hl_68⟩ := len_succ hl_67
  obtain ⟨c69, tc69, rfl, hl_69⟩ := len_succ hl_68
  obtain ⟨c70, tc70, rfl, hl_70⟩ := len_succ hl_69
  obtain ⟨c71, tc71, rfl, hl_71⟩ := len_succ hl_70
  obtain ⟨c72, tc72, rfl, hl_72⟩ := len_succ hl_71
  obtain ⟨c73, tc73, rfl, hl_73⟩ := len_succ hl_72
  obtain ⟨c74, tc74, rfl, hl_74⟩ := len_succ hl_73
  obtain ⟨c75, tc75, rfl, hl_75⟩ := len_succ hl_74
  obtain ⟨c76, tc76, rfl, hl_76⟩ := len_succ hl_75
  obtain ⟨c77, tc77, rfl, hl_77⟩ := len_succ hl_76
  obtain ⟨c78, tc78, rfl, hl_78⟩ := len_succ hl_77
  obtain ⟨c79, tc79, rfl, hl_79⟩ := len_succ hl_78
  obtain ⟨c80, tc80, rfl, hl_80⟩ := len_succ hl_79
  obtain ⟨c81, tc81, rfl, hl_81⟩ := len_succ hl_80
  obtain ⟨c82, tc82, rfl, hl_82⟩ := len_succ hl_81
  obtain ⟨c83, tc83, rfl, hl_83⟩ := len_succ hl_82
  obtain ⟨c84, tc84, rfl, hl_84⟩ := len_succ hl_83
  obtain ⟨c85, tc85, rfl, hl_85⟩ := len_succ hl_84
  obtain ⟨c86, tc86, rfl, hl_86⟩ := len_succ hl_85
  obtain ⟨c87, tc87, rfl, hl_87⟩ := len_succ hl_86
  obtain rfl := List.eq_nil_of_length_eq_zero hl_87
  obtain ⟨d0, td0, rfl, hdn_0⟩ := len_succ hdn
  obtain ⟨d1, td1, rfl, hdn_1⟩ := len_succ hdn_0
  obtain ⟨d2, td2, rfl, hdn_2⟩ := len_succ hdn_1
  obtain ⟨d3, td3, rfl, hdn_3⟩ := len_succ hdn_2
  obtain ⟨d4, td4, rfl, hdn_4⟩ := len_succ hdn_3
  obtain ⟨d5, td5, rfl, hdn_5⟩ := len_succ hdn_4
  obtain ⟨d6, td6, rfl, hdn_6⟩ := len_succ hdn_5
  obtain ⟨d7, td7, rfl, hdn_7⟩ := len_succ hdn_6
  obtain ⟨d8, td8, rfl, hdn_8⟩ := len_succ hdn_7
  obtain ⟨d9, td9, rfl, hdn_9⟩ := len_succ hdn_8
  obtain ⟨d10, td10, rfl, hdn_10⟩ := len_succ hdn_9
  obtain ⟨d11, td11, rfl, hdn_11⟩ := len_succ hdn_10
  obtain ⟨d12, td12, rfl, hdn_12⟩ := len_succ hdn_11
  obtain ⟨d13, td13, rfl, hdn_13⟩ := len_succ hdn_12
  obtain ⟨d14, td14, rfl, hdn_14⟩ := len_succ hdn_13
  obtain ⟨d15, td15, rfl, hdn_15⟩ := len_succ hdn_14
  obtain ⟨d16, td16, rfl, hdn_16⟩ := len_succ hdn_15
  obtain ⟨d17, td17, rfl, hdn_17⟩ := len_succ hdn_16
  obtain ⟨d18, td18, rfl, hdn_18⟩ := len_succ hdn_17
  obtain ⟨d19, td19, rfl, hdn_19⟩ := len_succ hdn_18
  obtain ⟨d20, td20, rfl, hdn_20⟩ := len_succ hdn_19
  obtain ⟨d21, td21, rfl, hdn_21⟩ := len_succ hdn_20
  obtain rfl := List.eq_nil_of_length_eq_zero hdn_21
  · skip
    · skip
      have z_PO : Try.prog.cellsOf 37 = 15 := by kernel_rfl
      have z_WC : Try.prog.cellsOf 39 = 6 := by kernel_rfl
      have z_bool : Try.prog.cellsOf 4 = 1 := by kernel_rfl
      have z_int : Try.prog.cellsOf 3 = 1 := by kernel_rfl
      have z_row : Try.prog.cellsOf 22 = 1 := by kernel_rfl
      have z_rows : Try.prog.cellsOf 40 = 1 := by kernel_rfl
      have z_status : Try.prog.cellsOf 33 = 1 := by kernel_rfl
      have z_str : Try.prog.cellsOf 9 = 1 := by kernel_rfl
      have z_u32 : Try.prog.cellsOf 23 = 1 := by kernel_rfl
      have z_u64 : Try.prog.cellsOf 24 = 1 := by kernel_rfl
      have f0 : ARd Try.prog h (n + 6) 33 (([c0, c1, c2, c3, c4, c5, c6, c7, c8, c9, c10, c11, c12, c13, c14, c15, c16, c17, c18, c19, c20, c21, c22, c23, c24, c25, c26, c27, c28, c29, c30, c31, c32, c33, c34, c35, c36, c37, c38, c39, c40, c41, c42, c43, c44, c45, c46, c47, c48, c49, c50, c51, c52, c53, c54, c55, c56, c57, c58, c59, c60, c61, c62, c63, c64, c65, c66, c67, c68, c69, c70, c71, c72, c73, c74, c75, c76, c77, c78, c79, c80, c81, c82, c83, c84, c85, c86, c87].drop 0).take (Try.prog.cellsOf 33)) d0 := hf 0 _ d0 rfl rfl
      rw [z_status] at f0
      have f1 : ARd Try.prog h (n + 6) 37 (([c0, c1, c2, c3, c4, c5, c6, c7, c8, c9, c10, c11, c12, c13, c14, c15, c16, c17, c18, c19, c20, c21, c22, c23, c24, c25, c26, c27, c28, c29, c30, c31, c32, c33, c34, c35, c36, c37, c38, c39, c40, c41, c42, c43, c44, c45, c46, c47, c48, c49, c50, c51, c52, c53, c54, c55, c56, c57, c58, c59, c60, c61, c62, c63, c64, c65, c66, c67, c68, c69, c70, c71, c72, c73, c74, c75, c76, c77, c78, c79, c80, c81, c82, c83, c84, c85, c86, c87].drop 1).take (Try.prog.cellsOf 37)) d1 := hf 1 _ d1 rfl rfl
      rw [z_PO] at f1
      have f2 : ARd Try.prog h (n + 6) 37 (([c0, c1, c2, c3, c4, c5, c6, c7, c8, c9, c10, c11, c12, c13, c14, c15, c16, c17, c18, c19, c20, c21, c22, c23, c24, c25, c26, c27, c28, c29, c30, c31, c32, c33, c34, c35, c36, c37, c38, c39, c40, c41, c42, c43, c44, c45, c46, c47, c48, c49, c50, c51, c52, c53, c54, c55, c56, c57, c58, c59, c60, c61, c62, c63, c64, c65, c66, c67, c68, c69, c70, c71, c72, c73, c74, c75, c76, c77, c78, c79, c80, c81, c82, c83, c84, c85, c86, c87].drop 16).take (Try.prog.cellsOf 37)) d2 := hf 2 _ d2 rfl rfl
      rw [z_PO] at f2
      have f3 : ARd Try.prog h (n + 6) 39 (([c0, c1, c2, c3, c4, c5, c6, c7, c8, c9, c10, c11, c12, c13, c14, c15, c16, c17, c18, c19, c20, c21, c22, c23, c24, c25, c26, c27, c28, c29, c30, c31, c32, c33, c34, c35, c36, c37, c38, c39, c40, c41, c42, c43, c44, c45, c46, c47, c48, c49, c50, c51, c52, c53, c54, c55, c56, c57, c58, c59, c60, c61, c62, c63, c64, c65, c66, c67, c68, c69, c70, c71, c72, c73, c74, c75, c76, c77, c78, c79, c80, c81, c82, c83, c84, c85, c86, c87].drop 31).take (Try.prog.cellsOf 39)) d3 := hf 3 _ d3 rfl rfl
      rw [z_WC] at f3
      have f4 : ARd Try.prog h (n + 6) 39 (([c0, c1, c2, c3, c4, c5, c6, c7, c8, c9, c10, c11, c12, c13, c14, c15, c16, c17, c18, c19, c20, c21, c22, c23, c24, c25, c26, c27, c28, c29, c30, c31, c32, c33, c34, c35, c36, c37, c38, c39, c40, c41, c42, c43, c44, c45, c46, c47, c48, c49, c50, c51, c52, c53, c54, c55, c56, c57, c58, c59, c60, c61, c62, c63, c64, c65, c66, c67, c68, c69, c70, c71, c72, c73, c74, c75, c76, c77, c78, c79, c80, c81, c82, c83, c84, c85, c86, c87].drop 37).take (Try.prog.cellsOf 39)) d4 := hf 4 _ d4 rfl rfl
      rw [z_WC] at f4
      have f5 : ARd Try.prog h (n + 6) 37 (([c0, c1, c2, c3, c4, c5, c6, c7, c8, c9, c10, c11, c12, c13, c14, c15, c16, c17, c18, c19, c20, c21, c22, c23, c24, c25, c26, c27, c28, c29, c30, c31, c32, c33, c34, c35, c36, c37, c38, c39, c40, c41, c42, c43, c44, c45, c46, c47, c48, c49, c50, c51, c52, c53, c54, c55, c56, c57, c58, c59, c60, c61, c62, c63, c64, c65, c66, c67, c68, c69, c70, c71, c72, c73, c74, c75, c76, c77, c78, c79, c80, c81, c82, c83, c84, c85, c86, c87].drop 43).take (Try.prog.cellsOf 37)) d5 := hf 5 _ d5 rfl rfl
      rw [z_PO] at f5
      have f6 : ARd Try.prog h (n + 6) 37 (([c0, c1, c2, c3, c4, c5, c6, c7, c8, c9, c10, c11, c12, c13, c14, c15, c16, c17, c18, c19, c20, c21, c22, c23, c24, c25, c26, c27, c28, c29, c30, c31, c32, c33, c34, c35, c36, c37, c38, c39, c40, c41, c42, c43, c44, c45, c46, c47, c48, c49, c50, c51, c52, c53, c54, c55, c56, c57, c58, c59, c60, c61, c62, c63, c64, c65, c66, c67, c68, c69, c70, c71, c72, c73, c74, c75, c76, c77, c78, c79, c80, c81, c82, c83, c84, c85, c86, c87].drop 58).take (Try.prog.cellsOf 37)) d6 := hf 6 _ d6 rfl rfl
      rw [z_PO] at f6
      have f7 : ARd Try.prog h (n + 6) 4 (([c0, c1, c2, c3, c4, c5, c6, c7, c8, c9, c10, c11, c12, c13, c14, c15, c16, c17, c18, c19, c20, c21, c22, c23, c24, c25, c26, c27, c28, c29, c30, c31, c32, c33, c34, c35, c36, c37, c38, c39, c40, c41, c42, c43, c44, c45, c46, c47, c48, c49, c50, c51, c52, c53, c54, c55, c56, c57, c58, c59, c60, c61, c62, c63, c64, c65, c66, c67, c68, c69, c70, c71, c72, c73, c74, c75, c76, c77, c78, c79, c80, c81, c82, c83, c84, c85, c86, c87].drop 73).take (Try.prog.cellsOf 4)) d7 := hf 7 _ d7 rfl rfl
      rw [z_bool] at f7
      have f8 : ARd Try.prog h (n + 6) 9 (([c0, c1, c2, c3, c4, c5, c6, c7, c8, c9, c10, c11, c12, c13, c14, c15, c16, c17, c18, c19, c20, c21, c22, c23, c24, c25, c26, c27, c28, c29, c30, c31, c32, c33, c34, c35, c36, c37, c38, c39, c40, c41, c42, c43, c44, c45, c46, c47, c48, c49, c50, c51, c52, c53, c54, c55, c56, c57, c58, c59, c60, c61, c62, c63, c64, c65, c66, c67, c68, c69, c70, c71, c72, c73, c74, c75, c76, c77, c78, c79, c80, c81, c82, c83, c84, c85, c86, c87].drop 74).take (Try.prog.cellsOf 9)) d8 := hf 8 _ d8 rfl rfl
      rw [z_str] at f8
      have f9 : ARd Try.prog h (n + 6) 23 (([c0, c1, c2, c3, c4, c5, c6, c7, c8, c9, c10, c11, c12, c13, c14, c15, c16, c17, c18, c19, c20, c21, c22, c23, c24, c25, c26, c27, c28, c29, c30, c31, c32, c33, c34, c35, c36, c37, c38, c39, c40, c41, c42, c43, c44, c45, c46, c47, c48, c49, c50, c51, c52, c53, c54, c55, c56, c57, c58, c59, c60, c61, c62, c63, c64, c65, c66, c67, c68, c69, c70, c71, c72, c73, c74, c75, c76, c77, c78, c79, c80, c81, c82, c83, c84, c85, c86, c87].drop 75).take (Try.prog.cellsOf 23)) d9 := hf 9 _ d9 rfl rfl
      rw [z_u32] at f9
      have f10 : ARd Try.prog h (n + 6) 9 (([c0, c1, c2, c3, c4, c5, c6, c7, c8, c9, c10, c11, c12, c13, c14, c15, c16, c17, c18, c19, c20, c21, c22, c23, c24, c25, c26, c27, c28, c29, c30, c31, c32, c33, c34, c35, c36, c37, c38, c39, c40, c41, c42, c43, c44, c45, c46, c47, c48, c49, c50, c51, c52, c53, c54, c55, c56, c57, c58, c59, c60, c61, c62, c63, c64, c65, c66, c67, c68, c69, c70, c71, c72, c73, c74, c75, c76, c77, c78, c79, c80, c81, c82, c83, c84, c85, c86, c87].drop 76).take (Try.prog.cellsOf 9)) d10 := hf 10 _ d10 rfl rfl
      rw [z_str] at f10
      have f11 : ARd Try.prog h (n + 6) 23 (([c0, c1, c2, c3, c4, c5, c6, c7, c8, c9, c10, c11, c12, c13, c14, c15, c16, c17, c18, c19, c20, c21, c22, c23, c24, c25, c26, c27, c28, c29, c30, c31, c32, c33, c34, c35, c36, c37, c38, c39, c40, c41, c42, c43, c44, c45, c46, c47, c48, c49, c50, c51, c52, c53, c54, c55, c56, c57, c58, c59, c60, c61, c62, c63, c64, c65, c66, c67, c68, c69, c70, c71, c72, c73, c74, c75, c76, c77, c78, c79, c80, c81, c82, c83, c84, c85, c86, c87].drop 77).take (Try.prog.cellsOf 23)) d11 := hf 11 _ d11 rfl rfl
      rw [z_u32] at f11
      have f12 : ARd Try.prog h (n + 6) 4 (([c0, c1, c2, c3, c4, c5, c6, c7, c8, c9, c10, c11, c12, c13, c14, c15, c16, c17, c18, c19, c20, c21, c22, c23, c24, c25, c26, c27, c28, c29, c30, c31, c32, c33, c34, c35, c36, c37, c38, c39, c40, c41, c42, c43, c44, c45, c46, c47, c48, c49, c50, c51, c52, c53, c54, c55, c56, c57, c58, c59, c60, c61, c62, c63, c64, c65, c66, c67, c68, c69, c70, c71, c72, c73, c74, c75, c76, c77, c78, c79, c80, c81, c82, c83, c84, c85, c86, c87].drop 78).take (Try.prog.cellsOf 4)) d12 := hf 12 _ d12 rfl rfl
      rw [z_bool] at f12
      have f13 : ARd Try.prog h (n + 6) 22 (([c0, c1, c2, c3, c4, c5, c6, c7, c8, c9, c10, c11, c12, c13, c14, c15, c16, c17, c18, c19, c20, c21, c22, c23, c24, c25, c26, c27, c28, c29, c30, c31, c32, c33, c34, c35, c36, c37, c38, c39, c40, c41, c42, c43, c44, c45, c46, c47, c48, c49, c50, c51, c52, c53, c54, c55, c56, c57, c58, c59, c60, c61, c62, c63, c64, c65, c66, c67, c68, c69, c70, c71, c72, c73, c74, c75, c76, c77, c78, c79, c80, c81, c82, c83, c84, c85, c86, c87].drop 79).take (Try.prog.cellsOf 22)) d13 := hf 13 _ d13 rfl rfl
      rw [z_row] at f13
      have f14 : ARd Try.prog h (n + 6) 3 (([c0, c1, c2, c3, c4, c5, c6, c7, c8, c9, c10, c11, c12, c13, c14, c15, c16, c17, c18, c19, c20, c21, c22, c23, c24, c25, c26, c27, c28, c29, c30, c31, c32, c33, c34, c35, c36, c37, c38, c39, c40, c41, c42, c43, c44, c45, c46, c47, c48, c49, c50, c51, c52, c53, c54, c55, c56, c57, c58, c59, c60, c61, c62, c63, c64, c65, c66, c67, c68, c69, c70, c71, c72, c73, c74, c75, c76, c77, c78, c79, c80, c81, c82, c83, c84, c85, c86, c87].drop 80).take (Try.prog.cellsOf 3)) d14 := hf 14 _ d14 rfl rfl
      rw [z_int] at f14
      have f15 : ARd Try.prog h (n + 6) 24 (([c0, c1, c2, c3, c4, c5, c6, c7, c8, c9, c10, c11, c12, c13, c14, c15, c16, c17, c18, c19, c20, c21, c22, c23, c24, c25, c26, c27, c28, c29, c30, c31, c32, c33, c34, c35, c36, c37, c38, c39, c40, c41, c42, c43, c44, c45, c46, c47, c48, c49, c50, c51, c52, c53, c54, c55, c56, c57, c58, c59, c60, c61, c62, c63, c64, c65, c66, c67, c68, c69, c70, c71, c72, c73, c74, c75, c76, c77, c78, c79, c80, c81, c82, c83, c84, c85, c86, c87].drop 81).take (Try.prog.cellsOf 24)) d15 := hf 15 _ d15 rfl rfl
      rw [z_u64] at f15
      have f16 : ARd Try.prog h (n + 6) 24 (([c0, c1, c2, c3, c4, c5, c6, c7, c8, c9, c10, c11, c12, c13, c14, c15, c16, c17, c18, c19, c20, c21, c22, c23, c24, c25, c26, c27, c28, c29, c30, c31, c32, c33, c34, c35, c36, c37, c38, c39, c40, c41, c42, c43, c44, c45, c46, c47, c48, c49, c50, c51, c52, c53, c54, c55, c56, c57, c58, c59, c60, c61, c62, c63, c64, c65, c66, c67, c68, c69, c70, c71, c72, c73, c74, c75, c76, c77, c78, c79, c80, c81, c82, c83, c84, c85, c86, c87].drop 82).take (Try.prog.cellsOf 24)) d16 := hf 16 _ d16 rfl rfl
      rw [z_u64] at f16
      have f17 : ARd Try.prog h (n + 6) 40 (([c0, c1, c2, c3, c4, c5, c6, c7, c8, c9, c10, c11, c12, c13, c14, c15, c16, c17, c18, c19, c20, c21, c22, c23, c24, c25, c26, c27, c28, c29, c30, c31, c32, c33, c34, c35, c36, c37, c38, c39, c40, c41, c42, c43, c44, c45, c46, c47, c48, c49, c50, c51, c52, c53, c54, c55, c56, c57, c58, c59, c60, c61, c62, c63, c64, c65, c66, c67, c68, c69, c70, c71, c72, c73, c74, c75, c76, c77, c78, c79, c80, c81, c82, c83, c84, c85, c86, c87].drop 83).take (Try.prog.cellsOf 40)) d17 := hf 17 _ d17 rfl rfl
      rw [z_rows] at f17
      have f18 : ARd Try.prog h (n + 6) 24 (([c0, c1, c2, c3, c4, c5, c6, c7, c8, c9, c10, c11, c12, c13, c14, c15, c16, c17, c18, c19, c20, c21, c22, c23, c24, c25, c26, c27, c28, c29, c30, c31, c32, c33, c34, c35, c36, c37, c38, c39, c40, c41, c42, c43, c44, c45, c46, c47, c48, c49, c50, c51, c52, c53, c54, c55, c56, c57, c58, c59, c60, c61, c62, c63, c64, c65, c66, c67, c68, c69, c70, c71, c72, c73, c74, c75, c76, c77, c78, c79, c80, c81, c82, c83, c84, c85, c86, c87].drop 84).take (Try.prog.cellsOf 24)) d18 := hf 18 _ d18 rfl rfl
      rw [z_u64] at f18
      have f19 : ARd Try.prog h (n + 6) 24 (([c0, c1, c2, c3, c4, c5, c6, c7, c8, c9, c10, c11, c12, c13, c14, c15, c16, c17, c18, c19, c20, c21, c22, c23, c24, c25, c26, c27, c28, c29, c30, c31, c32, c33, c34, c35, c36, c37, c38, c39, c40, c41, c42, c43, c44, c45, c46, c47, c48, c49, c50, c51, c52, c53, c54, c55, c56, c57, c58, c59, c60, c61, c62, c63, c64, c65, c66, c67, c68, c69, c70, c71, c72, c73, c74, c75, c76, c77, c78, c79, c80, c81, c82, c83, c84, c85, c86, c87].drop 85).take (Try.prog.cellsOf 24)) d19 := hf 19 _ d19 rfl rfl
      rw [z_u64] at f19
      have f20 : ARd Try.prog h (n + 6) 24 (([c0, c1, c2, c3, c4, c5, c6, c7, c8, c9, c10, c11, c12, c13, c14, c15, c16, c17, c18, c19, c20, c21, c22, c23, c24, c25, c26, c27, c28, c29, c30, c31, c32, c33, c34, c35, c36, c37, c38, c39, c40, c41, c42, c43, c44, c45, c46, c47, c48, c49, c50, c51, c52, c53, c54, c55, c56, c57, c58, c59, c60, c61, c62, c63, c64, c65, c66, c67, c68, c69, c70, c71, c72, c73, c74, c75, c76, c77, c78, c79, c80, c81, c82, c83, c84, c85, c86, c87].drop 86).take (Try.prog.cellsOf 24)) d20 := hf 20 _ d20 rfl rfl
      rw [z_u64] at f20
      have f21 : ARd Try.prog h (n + 6) 24 (([c0, c1, c2, c3, c4, c5, c6, c7, c8, c9, c10, c11, c12, c13, c14, c15, c16, c17, c18, c19, c20, c21, c22, c23, c24, c25, c26, c27, c28, c29, c30, c31, c32, c33, c34, c35, c36, c37, c38, c39, c40, c41, c42, c43, c44, c45, c46, c47, c48, c49, c50, c51, c52, c53, c54, c55, c56, c57, c58, c59, c60, c61, c62, c63, c64, c65, c66, c67, c68, c69, c70, c71, c72, c73, c74, c75, c76, c77, c78, c79, c80, c81, c82, c83, c84, c85, c86, c87].drop 87).take (Try.prog.cellsOf 24)) d21 := hf 21 _ d21 rfl rfl
      rw [z_u64] at f21
      obtain ⟨x0, e0, w0⟩ := ard_int Try.underlying33 f0
      injection e0 with e0
      subst e0
      obtain ⟨x1, e1, w1⟩ := ard_post f1
      have e1' : [c1, c2, c3, c4, c5, c6, c7, c8, c9, c10, c11, c12, c13, c14, c15] = x1.cells := e1
      simp only [PO.cells, AT.cells, List.cons_append, List.nil_append, List.cons.injEq, and_true] at e1'
      obtain ⟨g1_0, g1_1, g1_2, g1_3, g1_4, g1_5, g1_6, g1_7, g1_8, g1_9, g1_10, g1_11, g1_12, g1_13, g1_14⟩ := e1'
      subst g1_0
      subst g1_1
      subst g1_2
      subst g1_3
      subst g1_4
      subst g1_5
      subst g1_6
      subst g1_7
      subst g1_8
      subst g1_9
      subst g1_10
      subst g1_11
      subst g1_12
      subst g1_13
      subst g1_14
      obtain ⟨x2, e2, w2⟩ := ard_post f2
      have e2' : [c16, c17, c18, c19, c20, c21, c22, c23, c24, c25, c26, c27, c28, c29, c30] = x2.cells := e2
      simp only [PO.cells, AT.cells, List.cons_append, List.nil_append, List.cons.injEq, and_true] at e2'
      obtain ⟨g2_0, g2_1, g2_2, g2_3, g2_4, g2_5, g2_6, g2_7, g2_8, g2_9, g2_10, g2_11, g2_12, g2_13, g2_14⟩ := e2'
      subst g2_0
      subst g2_1
      subst g2_2
      subst g2_3
      subst g2_4
      subst g2_5
      subst g2_6
      subst g2_7
      subst g2_8
      subst g2_9
      subst g2_10
      subst g2_11
      subst g2_12
      subst g2_13
      subst g2_14
      obtain ⟨x3, e3, w3⟩ := ard_wcc f3
      have e3' : [c31, c32, c33, c34, c35, c36] = x3.cells := e3
      simp only [WC.cells, List.cons_append, List.nil_append, List.cons.injEq, and_true] at e3'
      obtain ⟨g3_0, g3_1, g3_2, g3_3, g3_4, g3_5⟩ := e3'
      subst g3_0
      subst g3_1
      subst g3_2
      subst g3_3
      subst g3_4
      subst g3_5
      obtain ⟨x4, e4, w4⟩ := ard_wcc f4
      have e4' : [c37, c38, c39, c40, c41, c42] = x4.cells := e4
      simp only [WC.cells, List.cons_append, List.nil_append, List.cons.injEq, and_true] at e4'
      obtain ⟨g4_0, g4_1, g4_2, g4_3, g4_4, g4_5⟩ := e4'
      subst g4_0
      subst g4_1
      subst g4_2
      subst g4_3
      subst g4_4
      subst g4_5
      obtain ⟨x5, e5, w5⟩ := ard_post f5
      have e5' : [c43, c44, c45, c46, c47, c48, c49, c50, c51, c52, c53, c54, c55, c56, c57] = x5.cells := e5
      simp only [PO.cells, AT.cells, List.cons_append, List.nil_append, List.cons.injEq, and_true] at e5'
      obtain ⟨g5_0, g5_1, g5_2, g5_3, g5_4, g5_5, g5_6, g5_7, g5_8, g5_9, g5_10, g5_11, g5_12, g5_13, g5_14⟩ := e5'
      subst g5_0
      subst g5_1
      subst g5_2
      subst g5_3
      subst g5_4
      subst g5_5
      subst g5_6
      subst g5_7
      subst g5_8
      subst g5_9
      subst g5_10
      subst g5_11
      subst g5_12
      subst g5_13
      subst g5_14
      obtain ⟨x6, e6, w6⟩ := ard_post f6
      have e6' : [c58, c59, c60, c61, c62, c63, c64, c65, c66, c67, c68, c69, c70, c71, c72] = x6.cells := e6
      simp only [PO.cells, AT.cells, List.cons_append, List.nil_append, List.cons.injEq, and_true] at e6'
      obtain ⟨g6_0, g6_1, g6_2, g6_3, g6_4, g6_5, g6_6, g6_7, g6_8, g6_9, g6_10, g6_11, g6_12, g6_13, g6_14⟩ := e6'
      subst g6_0
      subst g6_1
      subst g6_2
      subst g6_3
      subst g6_4
      subst g6_5
      subst g6_6
      subst g6_7
      subst g6_8
      subst g6_9
      subst g6_10
      subst g6_11
      subst g6_12
      subst g6_13
      subst g6_14
      obtain ⟨x7, e7⟩ := ard_bool Try.underlying4 f7
      injection e7 with e7
      subst e7
      obtain ⟨x8, e8, b8, m8⟩ := ard_strM Try.underlying9 f8
      injection e8 with e8
      subst e8
      obtain ⟨x9, e9, w9⟩ := ard_int Try.underlying23 f9
      injection e9 with e9
      subst e9
      replace w9 := wf_u32 w9
      obtain ⟨x10, e10, b10, m10⟩ := ard_strM Try.underlying9 f10
      injection e10 with e10
      subst e10
      obtain ⟨x11, e11, w11⟩ := ard_int Try.underlying23 f11
      injection e11 with e11
      subst e11
      replace w11 := wf_u32 w11
      obtain ⟨x12, e12⟩ := ard_bool Try.underlying4 f12
      injection e12 with e12
      subst e12
      obtain ⟨v13, y13, e13, r13, i13, s13, b13, m13⟩ := ard_rowM f13
      injection e13 with e13
      subst e13
      obtain ⟨x14, e14, w14⟩ := ard_int Try.underlying3 f14
      injection e14 with e14
      subst e14
      obtain ⟨x15, e15, w15⟩ := ard_int Try.underlying24 f15
      injection e15 with e15
      subst e15
      obtain ⟨x16, e16, w16⟩ := ard_int Try.underlying24 f16
      injection e16 with e16
      subst e16
      obtain ⟨v17, y17, e17, r17, i17, s17, m17, b17, w17, q17⟩ := ard_ents f17
      injection e17 with e17
      subst e17
      obtain ⟨x18, e18, w18⟩ := ard_int Try.underlying24 f18
      injection e18 with e18
      subst e18
      obtain ⟨x19, e19, w19⟩ := ard_int Try.underlying24 f19
      injection e19 with e19
      subst e19
      obtain ⟨x20, e20, w20⟩ := ard_int Try.underlying24 f20
      injection e20 with e20
      subst e20
      obtain ⟨x21, e21, w21⟩ := ard_int Try.underlying24 f21
      injection e21 with e21
      subst e21
      refine ⟨⟨x0, x1, x2, x3, x4, x5, x6, x7, x8, x9, x10, x11, x12, c79, strB y13, x14, x15, x16, c83, y17, x18, x19, x20, x21⟩, rfl, ⟨w0, w1, w2, w3, w4, w5, w6, m8, w9, m10, w11, s13, ⟨y13, rfl⟩, m13, w14, w15, w16, s17, m17, w17, w18, w19, w20, w21⟩, r13, i13, r17, i17, fun hb => ?_⟩
      rw [hag] at hb
      simp only [Rows.uptoBulk, Rows.uptoBulkAll] at hb
      refine ⟨?_, ?_, ?_, ?_, fun e he => ?_⟩
      · dsimp only; omega
      · dsimp only; omega
      · dsimp only; omega
      · dsimp only; omega
      · have := q17 e he
        constructor <;> omega
end
end Go.Proofs.Ytanknjpcgceccaa

namespace Go.Proofs.Ytanknjpcgceccaa
open Go Go.AM
set_option linter.unusedSimpArgs false
set_option maxRecDepth 100000
attribute [local irreducible] WOps WV WH WSt WNil WPick WGd
section
variable {Z : Nat → Prop} {H0 h h' : Heap} {ko kw : Nat} {x : WS} {L L' : List Blk} {kt : Nat} {T : TypeId} {a : AR}
end
end Go.Proofs.Ytanknjpcgceccaa

namespace Go.Proofs.Ytanknjpcgceccaa
open Go Go.AM
set_option linter.unusedSimpArgs false
set_option maxRecDepth 100000
attribute [local irreducible] WOps WV WH WSt WNil WPick WGd
theorem hN : hasName 0 = false ∧ hasName 1 = false ∧ hasName 2 = false ∧ hasName 3 = true ∧ hasName 4 = false ∧ hasName 5 = false ∧ hasName 6 = false ∧ hasName 7 = false ∧ hasName 8 = true ∧ hasName 9 = true ∧ hasName 10 = true ∧ hasName 11 = true ∧ hasName 12 = true ∧ hasName 13 = true ∧ hasName 14 = true ∧ hasName 15 = false ∧ hasName 16 = false ∧ hasName 17 = false ∧ hasName 18 = false ∧ hasName 19 = false ∧ hasName 20 = false ∧ hasName 21 = false ∧ hasName 100 = false ∧ hasName 101 = false ∧ hasName 102 = false ∧ hasName 103 = false ∧ hasName 104 = false ∧ hasName 105 = false := by decide
section
variable {Z : Nat → Prop} {H0 h h' : Heap} {ko kw : Nat} {x : WS} {L L' : List Blk} {kt : Nat} {T : TypeId} {a : AR}
theorem OW.ldArgs (c : OW Z H0 h ko kw x ((kt, a.cells, T) :: L)) : aLoad Try.prog h 30 (pt kt 0) = some (.agg a.cells.toArray) := by
  rw [c.ldS Try.underlying30 iArgs 0 (by show 0 + 36 ≤ _; simp [AR.cells, SA.cells])]
  rfl
theorem OW.eq {y : WS} (c : OW Z H0 h ko kw x L) (e : x = y) : OW Z H0 h ko kw y L := e ▸ c
theorem OW.new {cs : List Value} (s : St Z H0 h ((kt, cs, T) :: L)) :
    OW Z H0 ((h.push (.cells [.slice none 0 0] TRW false)).push (.cells [pt h.next 0, .bool false] TO false)) (h.push (.cells [.slice none 0 0] TRW false)).next h.next ⟨[], false⟩ ((kt, cs, T) :: L) :=
  ⟨.slice none 0 0, WB.alloc (⟨s.push _ _, .inl ⟨rfl, rfl⟩, fun j hj => (nilBuf j hj).elim, rfl⟩ : WB Z H0 _ h.next TRW (.slice none 0 0) [] ((kt, cs, T) :: L)) _ _⟩
end
end Go.Proofs.Ytanknjpcgceccaa

namespace Go.Proofs.Ytanknjpcgceccaa
open Go Go.AM
set_option linter.unusedSimpArgs false
set_option maxRecDepth 100000
attribute [local irreducible] WOps WV WH WSt WNil WPick WGd
theorem _root_.Go.AM.Same.tr {h h1 h2 : Heap} (a : Same h h1 noS) (b : Same h1 h2 noS) : Same h h2 noS := a.trans b (fun _ x => x) (fun _ _ x => x)
theorem _root_.Go.AM.Same.got {h h1 : Heap} {k : Nat} {e : Ent} (a : Same h h1 noS) (g : h.get k = some e) : h1.get k = some e := a.2 _ _ g (fun x => x)
theorem _root_.Go.AM.Row.on {h h1 : Heap} {v : Value} {vs : List Value} (r : Row h v vs) (a : Same h h1 noS) : Row h1 v vs := r.same a (fun _ _ _ _ _ x => x)
theorem _root_.Go.AM.RowX.on {h h1 : Heap} {e : TypeId} {v : Value} {vs : List Value} (r : RowX h e v vs) (a : Same h h1 noS) : RowX h1 e v vs := r.same a (fun _ _ _ _ _ x => x)
theorem ldArgs {h : Heap} {k : Nat} {vs : List Value} (hg : h.get k = some (.cells vs TA false)) (hl : vs.length = 36) : aLoad Try.prog h 30 (pt k 0) = some (.agg vs.toArray) :=
  ldAgg hg Try.underlying30 iArgs (by show 0 + 36 ≤ _; omega) (by show (vs.drop 0).take 36 = vs; rw [List.drop_zero, List.take_of_length_le (by omega)])
theorem AR.len (a : AR) : a.cells.length = 36 := by simp [AR.cells, SA.cells]
theorem SA.eq_refl (s : SA) : s.eq s = true := by simp [SA.eq, eqT]
theorem AR.eq_dv (a : AR) (d1 d2 : Value) : AR.eq { a with dv := d1 } { a with dv := d2 } = true := by simp [AR.eq, eqT, SA.eq_refl]
theorem appended {h : Heap} {bv : Value} {bs : List Value} (r : Row h bv bs) (h1 : bs.all Value.oneCell' = true) (hl : bs.length ≤ 1000000000) :
    ∃ v h2, aAppend Try.prog (h.push (.cells [] 5 false)) 22 22 (.slice (some ⟨h.next, 0, none⟩) 0 0) bv = some (v, h2) ∧ Buf h2 5 v bs ∧ Same h h2 noS ∧ ∀ j, bufBlk v j → h.next ≤ j := by
  have hs0 : Same h (h.push (.cells [] 5 false)) noS := Same.push _ _ _
  have hb2 := r.on hs0
  have hbuf : Buf (h.push (.cells [] 5 false)) 5 (.slice (some ⟨h.next, 0, none⟩) 0 0) [] := .inr (.inl ⟨rfl, h.next, [], 5, false, rfl, Heap.get_push_new⟩)
  obtain ⟨v1, hh1, ha1, hbv, hs1, hf1⟩ := Buf.append (P := Try.prog) hbuf Try.underlying22 i5 rfl rfl rfl rfl (hb2.src Try.underlying22 (by simp) rfl) rfl h1 (small_of (by simp; omega)) (small_of (by simp [Try.t5]; omega))
  have hfr : ∀ j, bufBlk (.slice (some ⟨h.next, 0, none⟩) 0 0) j → h.next ≤ j := by
    rintro j ⟨o, m, d, hh⟩
    injection hh with hh; injection hh with hh; injection hh with hh
    omega
  exact ⟨v1, hh1, ha1, by simpa using hbv, hs0.trans hs1 (fun _ x => x) (fun b hb x => absurd (hfr b x) (by omega)), fun b x => (hf1 b x).elim (hfr b) (fun y => Nat.le_trans (by simp) y)⟩
section
variable {x : WS}
end
end Go.Proofs.Ytanknjpcgceccaa
