/- What the reference's reader comes to, over the abstract machine: the same plain functions as the program's. -/
import Derived.Test.YtanknjpcgceccaaArgs5

namespace Go.Proofs.Ytanknjpcgceccaa
open Go Go.AM
set_option linter.unusedSimpArgs false
set_option maxRecDepth 100000
abbrev TR : TypeId := 75
section
variable {k off : Nat}
theorem faX0 : aFieldAddr Try.prog 75 (.pointer (some ⟨k, off, none⟩)) 0 = some (.pointer (some ⟨k, off, none⟩)) := by kernel_rfl
theorem faX1 : aFieldAddr Try.prog 75 (.pointer (some ⟨k, off, none⟩)) 1 = some (.pointer (some ⟨k, off + 1, none⟩)) := by kernel_rfl
theorem faX2 : aFieldAddr Try.prog 75 (.pointer (some ⟨k, off, none⟩)) 2 = some (.pointer (some ⟨k, off + 2, none⟩)) := by kernel_rfl
end
section
variable {h : Heap} {k : Nat} {T : TypeId} {bv : Value} {s : Nat × Int}
theorem RD.x (r : RD h k T bv s) : aLoad Try.prog h 3 (.pointer (some ⟨k, 0 + 2, none⟩)) = some (.int .i64 s.2) := by rw [aLoad_at Try.underlying3 (by simp) (by simp) r]; rfl
theorem RD.wx (r : RD h k T bv s) (n : Int) : aStore Try.prog h 3 (.pointer (some ⟨k, 0 + 2, none⟩)) (.int .i64 n) = some (h.set k (.cells [bv, .int .i64 s.1, .int .i64 n] T false)) := by rw [aStore_at i3' rfl r (0 + 2) (by simp) rfl rfl]; rfl
end
theorem xFail_am (at0 : Nat) (x : Int) (k : Nat) (T : TypeId) (bv : Value) (s : Nat × Int) (h : Heap) (r : RD h k T bv s) :
    Cl Try.prog 63 [.pointer (some ⟨k, 0, none⟩), .int .i64 at0, .int .i64 x] h fun v h' => v = .tuple #[] ∧ RD h' k T bv (at0, x) ∧ Same h h' (onlyS k) := by
  refine Cl.enter Try.func63 rfl 14 Try.ntmps63 (by simp) ?_
  intro env hl ha
  have h0 : sl env 0 = .pointer (some ⟨k, 0, none⟩) := ha 0 (by simp)
  have h1 : sl env 1 = .int .i64 at0 := ha 1 (by simp)
  have h2 : sl env 2 = .int .i64 x := ha 2 (by simp)
  clear ha
  have wp := r.wp at0
  have r1 := r.setp at0
  have wx := r1.wx x
  have r2 := r1.sete x
  repeat (first | (with_reducible refine Wp.st ?_; simp only [wS]) | with_reducible refine Wp.drawS (by decide +kernel) ?_ | simp (disch := (first | (simp only [List.length_set, hl]; omega) | omega | rfl)) only [walkA, walkB, bne_self_eq_false, beq_self_eq_true, Option.map_some, Option.map_none, reduceIte, decide_true, decide_false, Int.reduceLT, Int.reduceLE, Int.reduceMul, Int.reduceAdd, Int.reduceSub, h0, h1, h2, faX1, faX2, wp, wx])
  simp only [aRes_none Try.results63]
  exact ⟨trivial, r2, (Same.set1 _ _ _).then (Same.set1 _ _ _)⟩
theorem xNumber_am (n : Nat) (hn : n = 4 ∨ n = 8) (k : Nat) (T : TypeId) (bv : Value) (bs : List Int) (s : Nat × Int) (h : Heap) (r : RdOK h k T bv bs s) :
    Cl Try.prog 62 [.pointer (some ⟨k, 0, none⟩), .int .i64 n] h fun v h' => v = .int .u64 (rNum bs n s).1 ∧ RdOK h' k T bv bs (rNum bs n s).2 ∧ Same h h' (onlyS k) := by
  refine Cl.enter Try.func62 rfl 40 Try.ntmps62 (by simp) ?_
  intro env hl ha
  have h0 : sl env 0 = .pointer (some ⟨k, 0, none⟩) := ha 0 (by simp)
  have h1 : sl env 1 = .int .i64 n := ha 1 (by simp)
  clear ha
  have lx := r.rd.x
  have hln := r.len
  by_cases hz : s.2 ≠ 0
  · have hzb : (s.2 != 0) = true := by simpa using hz
    repeat (first | (with_reducible refine Wp.st ?_; simp only [wS]) | with_reducible refine Wp.drawS (by decide +kernel) ?_ | simp (disch := (first | (simp only [List.length_set, hl]; omega) | omega | rfl)) only [walkA, walkB, bne_self_eq_false, beq_self_eq_true, Option.map_some, Option.map_none, reduceIte, decide_true, decide_false, Int.reduceLT, Int.reduceLE, Int.reduceMul, Int.reduceAdd, Int.reduceSub, h0, h1, faX2, lx, hzb])
    refine Wp.cond_true (by first | ((simp (disch := (first | (simp only [List.length_set, hl]; omega) | omega | rfl)) only [sL, aEval_tmp]); done) | ((simp (disch := (first | (simp only [List.length_set, hl]; omega) | omega | rfl)) only [sL, aEval_tmp]); rfl)) ?_
    repeat (first | (with_reducible refine Wp.st ?_; simp only [wS]) | with_reducible refine Wp.drawS (by decide +kernel) ?_ | simp (disch := (first | (simp only [List.length_set, hl]; omega) | omega | rfl)) only [walkA, walkB, bne_self_eq_false, beq_self_eq_true, Option.map_some, Option.map_none, reduceIte, decide_true, decide_false, Int.reduceLT, Int.reduceLE, Int.reduceMul, Int.reduceAdd, Int.reduceSub, h0, h1])
    simp (disch := (first | (simp only [List.length_set, hl]; omega) | omega | rfl)) only [aRes_one Try.results62, sL]
    have e1 : rNum bs n s = (0, s) := by unfold rNum; rw [if_pos hz]
    rw [e1]
    exact ⟨rfl, r, Same.refl _ _⟩
  have hz' : s.2 = 0 := by omega
  have hzb : (s.2 != 0) = false := by simp [hz']
  have lb := r.rd.b
  have lp := r.rd.p
  repeat (first | (with_reducible refine Wp.st ?_; simp only [wS]) | with_reducible refine Wp.drawS (by decide +kernel) ?_ | simp (disch := (first | (simp only [List.length_set, hl]; omega) | omega | rfl)) only [walkA, walkB, bne_self_eq_false, beq_self_eq_true, Option.map_some, Option.map_none, reduceIte, decide_true, decide_false, Int.reduceLT, Int.reduceLE, Int.reduceMul, Int.reduceAdd, Int.reduceSub, h0, h1, faX2, lx, hzb])
  refine Wp.cond_false (by first | ((simp (disch := (first | (simp only [List.length_set, hl]; omega) | omega | rfl)) only [sL, aEval_tmp]); done) | ((simp (disch := (first | (simp only [List.length_set, hl]; omega) | omega | rfl)) only [sL, aEval_tmp]); rfl)) ?_
  repeat (first | (with_reducible refine Wp.st ?_; simp only [wS]) | with_reducible refine Wp.drawS (by decide +kernel) ?_ | simp (disch := (first | (simp only [List.length_set, hl]; omega) | omega | rfl)) only [walkA, walkB, bne_self_eq_false, beq_self_eq_true, Option.map_some, Option.map_none, reduceIte, decide_true, decide_false, Int.reduceLT, Int.reduceLE, Int.reduceMul, Int.reduceAdd, Int.reduceSub, h0, h1, faX0, faX1, lb, lp])
  refine (refBe_am n s.1 hn bv bs h r.row.row r.len r.pos).mono ?_
  rintro v h' ⟨rfl, rfl⟩
  by_cases hle : s.1 + n ≤ bs.length
  · have hbe : beR bs s.1 n = .tuple #[.int .u64 (beF 0 ((bs.drop s.1).take n)), .int .i64 0] := by unfold beR; rw [if_pos hle]
    have e1 : rNum bs n s = (beF 0 ((bs.drop s.1).take n), s.1 + n, 0) := by unfold rNum; rw [if_neg hz, if_pos hle]
    rw [e1]
    generalize beF 0 ((bs.drop s.1).take n) = x at hbe ⊢
    have x0 : aExtract (.tuple #[.int .u64 x, .int .i64 0]) 0 = some (.int .u64 x) := rfl
    have x1 : aExtract (.tuple #[.int .u64 x, .int .i64 0]) 1 = some (.int .i64 0) := rfl
    have wp := r.rd.wp (s.1 + n)
    have r3 := r.rd.setp (s.1 + n)
    repeat (first | (with_reducible refine Wp.st ?_; simp only [wS]) | with_reducible refine Wp.drawS (by decide +kernel) ?_ | simp (disch := (first | (simp only [List.length_set, hl]; omega) | omega | rfl)) only [walkA, walkB, bne_self_eq_false, beq_self_eq_true, Option.map_some, Option.map_none, reduceIte, decide_true, decide_false, Int.reduceLT, Int.reduceLE, Int.reduceMul, Int.reduceAdd, Int.reduceSub, h0, h1, hbe, x0, x1])
    refine Wp.cond_false (by first | ((simp (disch := (first | (simp only [List.length_set, hl]; omega) | omega | rfl)) only [sL, aEval_tmp]); done) | ((simp (disch := (first | (simp only [List.length_set, hl]; omega) | omega | rfl)) only [sL, aEval_tmp]); rfl)) ?_
    repeat (first | (with_reducible refine Wp.st ?_; simp only [wS]) | with_reducible refine Wp.drawS (by decide +kernel) ?_ | simp (disch := (first | (simp only [List.length_set, hl]; omega) | omega | rfl)) only [walkA, walkB, bne_self_eq_false, beq_self_eq_true, Option.map_some, Option.map_none, reduceIte, decide_true, decide_false, Int.reduceLT, Int.reduceLE, Int.reduceMul, Int.reduceAdd, Int.reduceSub, h0, h1, faX1, lp, wp])
    simp (disch := (first | (simp only [List.length_set, hl]; omega) | omega | rfl)) only [aRes_one Try.results62, sL]
    refine ⟨trivial, ?_, Same.set1 _ _ _⟩
    rw [hz'] at r3
    have := r.next (s' := (s.1 + n, 0)) r3 (Same.set1 _ _ _) hle
    simpa [hz'] using this
  · have hbe : beR bs s.1 n = .tuple #[.int .u64 0, .int .i64 11] := by unfold beR; rw [if_neg hle]
    have e1 : rNum bs n s = (0, s.1, 11) := by unfold rNum; rw [if_neg hz, if_neg hle]
    rw [e1]
    have x0 : aExtract (.tuple #[.int .u64 0, .int .i64 11]) 0 = some (.int .u64 0) := rfl
    have x1 : aExtract (.tuple #[.int .u64 0, .int .i64 11]) 1 = some (.int .i64 11) := rfl
    have wx := r.rd.wx 11
    have r3 := r.rd.sete 11
    repeat (first | (with_reducible refine Wp.st ?_; simp only [wS]) | with_reducible refine Wp.drawS (by decide +kernel) ?_ | simp (disch := (first | (simp only [List.length_set, hl]; omega) | omega | rfl)) only [walkA, walkB, bne_self_eq_false, beq_self_eq_true, Option.map_some, Option.map_none, reduceIte, decide_true, decide_false, Int.reduceLT, Int.reduceLE, Int.reduceMul, Int.reduceAdd, Int.reduceSub, h0, h1, hbe, x0, x1])
    refine Wp.cond_true (by first | ((simp (disch := (first | (simp only [List.length_set, hl]; omega) | omega | rfl)) only [sL, aEval_tmp]); done) | ((simp (disch := (first | (simp only [List.length_set, hl]; omega) | omega | rfl)) only [sL, aEval_tmp]); rfl)) ?_
    repeat (first | (with_reducible refine Wp.st ?_; simp only [wS]) | with_reducible refine Wp.drawS (by decide +kernel) ?_ | simp (disch := (first | (simp only [List.length_set, hl]; omega) | omega | rfl)) only [walkA, walkB, bne_self_eq_false, beq_self_eq_true, Option.map_some, Option.map_none, reduceIte, decide_true, decide_false, Int.reduceLT, Int.reduceLE, Int.reduceMul, Int.reduceAdd, Int.reduceSub, h0, h1, faX2, wx])
    simp (disch := (first | (simp only [List.length_set, hl]; omega) | omega | rfl)) only [aRes_one Try.results62, sL]
    exact ⟨trivial, r.next r3 (Same.set1 _ _ _) r.pos, Same.set1 _ _ _⟩
section
variable (k : Nat) (T : TypeId) (bv : Value) (bs : List Int) (s : Nat × Int) (h : Heap)
theorem xU32_am (r : RdOK h k T bv bs s) :
    Cl Try.prog 64 [.pointer (some ⟨k, 0, none⟩)] h fun v h' => v = .int .u32 (IntKind.u32.wrap (rNum bs 4 s).1) ∧ RdOK h' k T bv bs (rNum bs 4 s).2 ∧ Same h h' (onlyS k) := by
  refine Cl.enter Try.func64 rfl 6 Try.ntmps64 (by simp) ?_
  intro env hl ha
  have h0 : sl env 0 = .pointer (some ⟨k, 0, none⟩) := ha 0 (by simp)
  clear ha
  have hcv := fun x hx => conv_int (h := hx) (k' := .u64) (n := x) Try.underlying24 Try.underlying23
  repeat (first | (with_reducible refine Wp.st ?_; simp only [wS]) | with_reducible refine Wp.drawS (by decide +kernel) ?_ | simp (disch := (first | (simp only [List.length_set, hl]; omega) | omega | rfl)) only [walkA, walkB, bne_self_eq_false, beq_self_eq_true, Option.map_some, Option.map_none, reduceIte, decide_true, decide_false, Int.reduceLT, Int.reduceLE, Int.reduceMul, Int.reduceAdd, Int.reduceSub, h0])
  refine (xNumber_am 4 (.inl rfl) k T bv bs s h r).mono ?_
  rintro v h' ⟨rfl, r', hs⟩
  repeat (first | (with_reducible refine Wp.st ?_; simp only [wS]) | with_reducible refine Wp.drawS (by decide +kernel) ?_ | simp (disch := (first | (simp only [List.length_set, hl]; omega) | omega | rfl)) only [walkA, walkB, bne_self_eq_false, beq_self_eq_true, Option.map_some, Option.map_none, reduceIte, decide_true, decide_false, Int.reduceLT, Int.reduceLE, Int.reduceMul, Int.reduceAdd, Int.reduceSub, h0, hcv])
  simp (disch := (first | (simp only [List.length_set, hl]; omega) | omega | rfl)) only [aRes_one Try.results64, sL]
  exact ⟨trivial, r', hs⟩
theorem xU64_am (r : RdOK h k T bv bs s) :
    Cl Try.prog 31 [.pointer (some ⟨k, 0, none⟩)] h fun v h' => v = .int .u64 (rNum bs 8 s).1 ∧ RdOK h' k T bv bs (rNum bs 8 s).2 ∧ Same h h' (onlyS k) := by
  refine Cl.enter Try.func31 rfl 5 Try.ntmps31 (by simp) ?_
  intro env hl ha
  have h0 : sl env 0 = .pointer (some ⟨k, 0, none⟩) := ha 0 (by simp)
  clear ha
  repeat (first | (with_reducible refine Wp.st ?_; simp only [wS]) | with_reducible refine Wp.drawS (by decide +kernel) ?_ | simp (disch := (first | (simp only [List.length_set, hl]; omega) | omega | rfl)) only [walkA, walkB, bne_self_eq_false, beq_self_eq_true, Option.map_some, Option.map_none, reduceIte, decide_true, decide_false, Int.reduceLT, Int.reduceLE, Int.reduceMul, Int.reduceAdd, Int.reduceSub, h0])
  refine (xNumber_am 8 (.inr rfl) k T bv bs s h r).mono ?_
  rintro v h' ⟨rfl, r', hs⟩
  repeat (first | (with_reducible refine Wp.st ?_; simp only [wS]) | with_reducible refine Wp.drawS (by decide +kernel) ?_ | simp (disch := (first | (simp only [List.length_set, hl]; omega) | omega | rfl)) only [walkA, walkB, bne_self_eq_false, beq_self_eq_true, Option.map_some, Option.map_none, reduceIte, decide_true, decide_false, Int.reduceLT, Int.reduceLE, Int.reduceMul, Int.reduceAdd, Int.reduceSub, h0])
  simp (disch := (first | (simp only [List.length_set, hl]; omega) | omega | rfl)) only [aRes_one Try.results31, sL]
  exact ⟨trivial, r', hs⟩
theorem rNum_gt {n : Nat} (hgt : (rNum bs n s).1 > 1) : (rNum bs n s).2.2 = 0 := by
  unfold rNum at hgt ⊢
  split
  · rename_i hh; rw [if_pos hh] at hgt; simp at hgt
  · rename_i hh; rw [if_neg hh] at hgt
    split
    · rfl
    · rename_i h2; rw [if_neg h2] at hgt; simp at hgt
theorem rNum_err {n : Nat} (he : (rNum bs n s).2.2 ≠ 0) : (rNum bs n s).1 = 0 ∧ (rNum bs n s).2.1 = s.1 := by
  unfold rNum at he ⊢
  split
  · exact ⟨rfl, rfl⟩
  · rename_i hh; rw [if_neg hh] at he
    split
    · rename_i h2; rw [if_pos h2] at he; exact absurd rfl he
    · exact ⟨rfl, rfl⟩
theorem xBool_am (r : RdOK h k T bv bs s) :
    Cl Try.prog 28 [.pointer (some ⟨k, 0, none⟩)] h fun v h' => v = .bool (rBool bs s).1 ∧ RdOK h' k T bv bs (rBool bs s).2 ∧ Same h h' (onlyS k) := by
  refine Cl.enter Try.func28 rfl 25 Try.ntmps28 (by simp) ?_
  intro env hl ha
  have h0 : sl env 0 = .pointer (some ⟨k, 0, none⟩) := ha 0 (by simp)
  clear ha
  have lp := r.rd.p
  repeat (first | (with_reducible refine Wp.st ?_; simp only [wS]) | with_reducible refine Wp.drawS (by decide +kernel) ?_ | simp (disch := (first | (simp only [List.length_set, hl]; omega) | omega | rfl)) only [walkA, walkB, bne_self_eq_false, beq_self_eq_true, Option.map_some, Option.map_none, reduceIte, decide_true, decide_false, Int.reduceLT, Int.reduceLE, Int.reduceMul, Int.reduceAdd, Int.reduceSub, h0, faX1, lp])
  refine (xNumber_am 4 (.inl rfl) k T bv bs s h r).mono ?_
  rintro v h' ⟨rfl, r', hs⟩
  have lx := r'.rd.x
  by_cases hgt : (rNum bs 4 s).1 > 1
  · have hz := rNum_gt bs s hgt
    have d0 : ((rNum bs 4 s).2.2 == 0) = true := by simpa using hz
    have d1 : decide ((rNum bs 4 s).1 > 1) = true := by simpa using hgt
    repeat (first | (with_reducible refine Wp.st ?_; simp only [wS]) | with_reducible refine Wp.drawS (by decide +kernel) ?_ | simp (disch := (first | (simp only [List.length_set, hl]; omega) | omega | rfl)) only [walkA, walkB, bne_self_eq_false, beq_self_eq_true, Option.map_some, Option.map_none, reduceIte, decide_true, decide_false, Int.reduceLT, Int.reduceLE, Int.reduceMul, Int.reduceAdd, Int.reduceSub, h0, faX2, lx, d0, d1])
    refine Wp.cond_true (by first | ((simp (disch := (first | (simp only [List.length_set, hl]; omega) | omega | rfl)) only [sL, aEval_tmp]); done) | ((simp (disch := (first | (simp only [List.length_set, hl]; omega) | omega | rfl)) only [sL, aEval_tmp]); rfl)) ?_
    repeat (first | (with_reducible refine Wp.st ?_; simp only [wS]) | with_reducible refine Wp.drawS (by decide +kernel) ?_ | simp (disch := (first | (simp only [List.length_set, hl]; omega) | omega | rfl)) only [walkA, walkB, bne_self_eq_false, beq_self_eq_true, Option.map_some, Option.map_none, reduceIte, decide_true, decide_false, Int.reduceLT, Int.reduceLE, Int.reduceMul, Int.reduceAdd, Int.reduceSub, h0])
    refine (xFail_am s.1 15 k T bv _ h' r'.rd).mono ?_
    rintro v h3 ⟨rfl, r3, s3⟩
    repeat (first | (with_reducible refine Wp.st ?_; simp only [wS]) | with_reducible refine Wp.drawS (by decide +kernel) ?_ | simp (disch := (first | (simp only [List.length_set, hl]; omega) | omega | rfl)) only [walkA, walkB, bne_self_eq_false, beq_self_eq_true, Option.map_some, Option.map_none, reduceIte, decide_true, decide_false, Int.reduceLT, Int.reduceLE, Int.reduceMul, Int.reduceAdd, Int.reduceSub, h0])
    simp (disch := (first | (simp only [List.length_set, hl]; omega) | omega | rfl)) only [aRes_one Try.results28, sL]
    have e1 : rBool bs s = (false, s.1, 15) := by unfold rBool; rw [if_pos hgt]
    rw [e1]
    exact ⟨rfl, r.next r3 (hs.then s3) r.pos, hs.then s3⟩
  · have e1 : rBool bs s = ((rNum bs 4 s).1 == 1, (rNum bs 4 s).2) := by unfold rBool; rw [if_neg hgt]
    have d1 : decide ((rNum bs 4 s).1 > 1) = false := by simpa using hgt
    by_cases hz : (rNum bs 4 s).2.2 = 0
    · have d0 : ((rNum bs 4 s).2.2 == 0) = true := by simpa using hz
      repeat (first | (with_reducible refine Wp.st ?_; simp only [wS]) | with_reducible refine Wp.drawS (by decide +kernel) ?_ | simp (disch := (first | (simp only [List.length_set, hl]; omega) | omega | rfl)) only [walkA, walkB, bne_self_eq_false, beq_self_eq_true, Option.map_some, Option.map_none, reduceIte, decide_true, decide_false, Int.reduceLT, Int.reduceLE, Int.reduceMul, Int.reduceAdd, Int.reduceSub, h0, faX2, lx, d0, d1])
      refine Wp.cond_false (by first | ((simp (disch := (first | (simp only [List.length_set, hl]; omega) | omega | rfl)) only [sL, aEval_tmp]); done) | ((simp (disch := (first | (simp only [List.length_set, hl]; omega) | omega | rfl)) only [sL, aEval_tmp]); rfl)) ?_
      repeat (first | (with_reducible refine Wp.st ?_; simp only [wS]) | with_reducible refine Wp.drawS (by decide +kernel) ?_ | simp (disch := (first | (simp only [List.length_set, hl]; omega) | omega | rfl)) only [walkA, walkB, bne_self_eq_false, beq_self_eq_true, Option.map_some, Option.map_none, reduceIte, decide_true, decide_false, Int.reduceLT, Int.reduceLE, Int.reduceMul, Int.reduceAdd, Int.reduceSub, h0])
      simp (disch := (first | (simp only [List.length_set, hl]; omega) | omega | rfl)) only [aRes_one Try.results28, sL]
      rw [e1]
      exact ⟨rfl, r', hs⟩
    · have d0 : ((rNum bs 4 s).2.2 == 0) = false := by simpa using hz
      repeat (first | (with_reducible refine Wp.st ?_; simp only [wS]) | with_reducible refine Wp.drawS (by decide +kernel) ?_ | simp (disch := (first | (simp only [List.length_set, hl]; omega) | omega | rfl)) only [walkA, walkB, bne_self_eq_false, beq_self_eq_true, Option.map_some, Option.map_none, reduceIte, decide_true, decide_false, Int.reduceLT, Int.reduceLE, Int.reduceMul, Int.reduceAdd, Int.reduceSub, h0, faX2, lx, d0, d1])
      refine Wp.cond_false (by first | ((simp (disch := (first | (simp only [List.length_set, hl]; omega) | omega | rfl)) only [sL, aEval_tmp]); done) | ((simp (disch := (first | (simp only [List.length_set, hl]; omega) | omega | rfl)) only [sL, aEval_tmp]); rfl)) ?_
      repeat (first | (with_reducible refine Wp.st ?_; simp only [wS]) | with_reducible refine Wp.drawS (by decide +kernel) ?_ | simp (disch := (first | (simp only [List.length_set, hl]; omega) | omega | rfl)) only [walkA, walkB, bne_self_eq_false, beq_self_eq_true, Option.map_some, Option.map_none, reduceIte, decide_true, decide_false, Int.reduceLT, Int.reduceLE, Int.reduceMul, Int.reduceAdd, Int.reduceSub, h0])
      simp (disch := (first | (simp only [List.length_set, hl]; omega) | omega | rfl)) only [aRes_one Try.results28, sL]
      rw [e1]
      exact ⟨rfl, r', hs⟩
theorem xLeft_am (r : RdOK h k T bv bs s) : Cl Try.prog 35 [.pointer (some ⟨k, 0, none⟩)] h fun v h' => v = .int .i64 ((bs.length : Int) - s.1) ∧ h' = h := by
  refine Cl.enter Try.func35 rfl 13 Try.ntmps35 (by simp) ?_
  intro env hl ha
  have h0 : sl env 0 = .pointer (some ⟨k, 0, none⟩) := ha 0 (by simp)
  clear ha
  have lb := r.rd.b
  have lp := r.rd.p
  have hl2 := len_any r.row.row Try.underlying22
  simp only [List.length_map] at hl2
  have hp := r.pos
  have hln := r.len
  repeat (first | (with_reducible refine Wp.st ?_; simp only [wS]) | with_reducible refine Wp.drawS (by decide +kernel) ?_ | simp (disch := (first | (simp only [List.length_set, hl]; omega) | omega | rfl)) only [walkA, walkB, bne_self_eq_false, beq_self_eq_true, Option.map_some, Option.map_none, reduceIte, decide_true, decide_false, Int.reduceLT, Int.reduceLE, Int.reduceMul, Int.reduceAdd, Int.reduceSub, h0, faX0, faX1, lb, lp, hl2])
  simp (disch := (first | (simp only [List.length_set, hl]; omega) | omega | rfl)) only [aRes_one Try.results35, sL]
  exact ⟨trivial, trivial⟩
end
set_option maxHeartbeats 1000000 in
theorem xFixed_am (n : Int) (hn1 : -9223372036854775808 ≤ n) (hn2 : n ≤ 9223372036854775807) (k : Nat) (T : TypeId) (bv : Value) (bs : List Int) (s : Nat × Int) (h : Heap) (r : RdOK h k T bv bs s) :
    Cl Try.prog 65 [.pointer (some ⟨k, 0, none⟩), .int .i64 n] h fun v h' => OutB h h' v (rFixed bs n s).1 ∧ RdOK h' k T bv bs (rFixed bs n s).2 ∧ Same h h' (onlyS k) := by
  refine Cl.enter Try.func65 rfl 88 Try.ntmps65 (by simp) ?_
  intro env hl ha
  have h0 : sl env 0 = .pointer (some ⟨k, 0, none⟩) := ha 0 (by simp)
  have h1 : sl env 1 = .int .i64 n := ha 1 (by simp)
  clear ha
  have hln := r.len
  have hps := r.pos
  have lx := r.rd.x
  by_cases hz : s.2 ≠ 0
  · have hzb : (s.2 != 0) = true := by simpa using hz
    repeat (first | (with_reducible refine Wp.st ?_; simp only [wS]) | with_reducible refine Wp.drawS (by decide +kernel) ?_ | simp (disch := (first | (simp only [List.length_set, hl]; omega) | (simp only [List.length_set, el]; omega) | omega | rfl)) only [walkA, walkB, bne_self_eq_false, beq_self_eq_true, Option.map_some, Option.map_none, reduceIte, decide_true, decide_false, Int.reduceLT, Int.reduceLE, Int.reduceMul, Int.reduceAdd, Int.reduceSub, h0, h1, faX2, lx, hzb])
    refine Wp.cond_true (by first | ((simp (disch := (first | (simp only [List.length_set, hl]; omega) | (simp only [List.length_set, el]; omega) | omega | rfl)) only [sL, aEval_tmp]); done) | ((simp (disch := (first | (simp only [List.length_set, hl]; omega) | (simp only [List.length_set, el]; omega) | omega | rfl)) only [sL, aEval_tmp]); rfl)) ?_
    repeat (first | (with_reducible refine Wp.st ?_; simp only [wS]) | with_reducible refine Wp.drawS (by decide +kernel) ?_ | simp (disch := (first | (simp only [List.length_set, hl]; omega) | (simp only [List.length_set, el]; omega) | omega | rfl)) only [walkA, walkB, bne_self_eq_false, beq_self_eq_true, Option.map_some, Option.map_none, reduceIte, decide_true, decide_false, Int.reduceLT, Int.reduceLE, Int.reduceMul, Int.reduceAdd, Int.reduceSub, h0, h1])
    simp (disch := (first | (simp only [List.length_set, hl]; omega) | (simp only [List.length_set, el]; omega) | omega | rfl)) only [aRes_one Try.results65, sL]
    have e1 : rFixed bs n s = ([], s) := by unfold rFixed; rw [if_pos hz]
    rw [e1]
    exact ⟨OutB.nil, r, Same.refl _ _⟩
  have hz' : s.2 = 0 := by omega
  have hzb : (s.2 != 0) = false := by simp [hz']
  by_cases hneg : n < 0
  · have d1 : decide (n < 0) = true := by simpa using hneg
    have wx := r.rd.wx 1
    have r3 := r.rd.sete 1
    repeat (first | (with_reducible refine Wp.st ?_; simp only [wS]) | with_reducible refine Wp.drawS (by decide +kernel) ?_ | simp (disch := (first | (simp only [List.length_set, hl]; omega) | (simp only [List.length_set, el]; omega) | omega | rfl)) only [walkA, walkB, bne_self_eq_false, beq_self_eq_true, Option.map_some, Option.map_none, reduceIte, decide_true, decide_false, Int.reduceLT, Int.reduceLE, Int.reduceMul, Int.reduceAdd, Int.reduceSub, h0, h1, faX2, lx, hzb])
    refine Wp.cond_false (by first | ((simp (disch := (first | (simp only [List.length_set, hl]; omega) | (simp only [List.length_set, el]; omega) | omega | rfl)) only [sL, aEval_tmp]); done) | ((simp (disch := (first | (simp only [List.length_set, hl]; omega) | (simp only [List.length_set, el]; omega) | omega | rfl)) only [sL, aEval_tmp]); rfl)) ?_
    repeat (first | (with_reducible refine Wp.st ?_; simp only [wS]) | with_reducible refine Wp.drawS (by decide +kernel) ?_ | simp (disch := (first | (simp only [List.length_set, hl]; omega) | (simp only [List.length_set, el]; omega) | omega | rfl)) only [walkA, walkB, bne_self_eq_false, beq_self_eq_true, Option.map_some, Option.map_none, reduceIte, decide_true, decide_false, Int.reduceLT, Int.reduceLE, Int.reduceMul, Int.reduceAdd, Int.reduceSub, h0, h1, d1])
    refine Wp.cond_true (by first | ((simp (disch := (first | (simp only [List.length_set, hl]; omega) | (simp only [List.length_set, el]; omega) | omega | rfl)) only [sL, aEval_tmp]); done) | ((simp (disch := (first | (simp only [List.length_set, hl]; omega) | (simp only [List.length_set, el]; omega) | omega | rfl)) only [sL, aEval_tmp]); rfl)) ?_
    repeat (first | (with_reducible refine Wp.st ?_; simp only [wS]) | with_reducible refine Wp.drawS (by decide +kernel) ?_ | simp (disch := (first | (simp only [List.length_set, hl]; omega) | (simp only [List.length_set, el]; omega) | omega | rfl)) only [walkA, walkB, bne_self_eq_false, beq_self_eq_true, Option.map_some, Option.map_none, reduceIte, decide_true, decide_false, Int.reduceLT, Int.reduceLE, Int.reduceMul, Int.reduceAdd, Int.reduceSub, h0, h1, faX2, wx])
    simp (disch := (first | (simp only [List.length_set, hl]; omega) | (simp only [List.length_set, el]; omega) | omega | rfl)) only [aRes_one Try.results65, sL]
    have e1 : rFixed bs n s = ([], s.1, 1) := by unfold rFixed; rw [if_neg hz, if_pos hneg]
    rw [e1]
    exact ⟨OutB.nil, r.next r3 (Same.set1 _ _ _) r.pos, Same.set1 _ _ _⟩
  obtain ⟨m, rfl⟩ : ∃ m : Nat, n = m := ⟨n.toNat, by omega⟩
  have d1 : decide ((m : Int) < 0) = false := by simp
  have hpd := pad_le m
  have a0 : ((m : Int) + 3).tdiv 4 = (((m + 3) / 4 : Nat) : Int) := by rw [Int.tdiv_eq_ediv_of_nonneg (by omega)]; omega
  have a3 : (((m + 3) / 4 : Nat) : Int) * 4 = ((m + pad m : Nat) : Int) := by unfold pad; omega
  repeat (first | (with_reducible refine Wp.st ?_; simp only [wS]) | with_reducible refine Wp.drawS (by decide +kernel) ?_ | simp (disch := (first | (simp only [List.length_set, hl]; omega) | (simp only [List.length_set, el]; omega) | omega | rfl)) only [walkA, walkB, bne_self_eq_false, beq_self_eq_true, Option.map_some, Option.map_none, reduceIte, decide_true, decide_false, Int.reduceLT, Int.reduceLE, Int.reduceMul, Int.reduceAdd, Int.reduceSub, h0, h1, faX2, lx, hzb])
  refine Wp.cond_false (by first | ((simp (disch := (first | (simp only [List.length_set, hl]; omega) | (simp only [List.length_set, el]; omega) | omega | rfl)) only [sL, aEval_tmp]); done) | ((simp (disch := (first | (simp only [List.length_set, hl]; omega) | (simp only [List.length_set, el]; omega) | omega | rfl)) only [sL, aEval_tmp]); rfl)) ?_
  repeat (first | (with_reducible refine Wp.st ?_; simp only [wS]) | with_reducible refine Wp.drawS (by decide +kernel) ?_ | simp (disch := (first | (simp only [List.length_set, hl]; omega) | (simp only [List.length_set, el]; omega) | omega | rfl)) only [walkA, walkB, bne_self_eq_false, beq_self_eq_true, Option.map_some, Option.map_none, reduceIte, decide_true, decide_false, Int.reduceLT, Int.reduceLE, Int.reduceMul, Int.reduceAdd, Int.reduceSub, h0, h1, d1])
  refine Wp.cond_false (by first | ((simp (disch := (first | (simp only [List.length_set, hl]; omega) | (simp only [List.length_set, el]; omega) | omega | rfl)) only [sL, aEval_tmp]); done) | ((simp (disch := (first | (simp only [List.length_set, hl]; omega) | (simp only [List.length_set, el]; omega) | omega | rfl)) only [sL, aEval_tmp]); rfl)) ?_
  repeat (first | (with_reducible refine Wp.st ?_; simp only [wS]) | with_reducible refine Wp.drawS (by decide +kernel) ?_ | simp (disch := (first | (simp only [List.length_set, hl]; omega) | (simp only [List.length_set, el]; omega) | omega | rfl)) only [walkA, walkB, bne_self_eq_false, beq_self_eq_true, Option.map_some, Option.map_none, reduceIte, decide_true, decide_false, Int.reduceLT, Int.reduceLE, Int.reduceMul, Int.reduceAdd, Int.reduceSub, h0, h1])
  refine (xLeft_am k T bv bs s h r).mono ?_
  rintro v h' ⟨rfl, rfl⟩
  have wx := r.rd.wx 11
  have r11 := r.rd.sete 11
  by_cases hcut : bs.length < s.1 + m + pad m
  · have e1 : rFixed bs m s = ([], s.1, 11) := by unfold rFixed; rw [if_neg hz, if_neg hneg, if_pos (by simpa using hcut)]
    by_cases hbig : (m : Int) > (bs.length : Int) - (s.1 : Int)
    · have d2 : decide ((m : Int) > (bs.length : Int) - (s.1 : Int)) = true := by simpa using hbig
      repeat (first | (with_reducible refine Wp.st ?_; simp only [wS]) | with_reducible refine Wp.drawS (by decide +kernel) ?_ | simp (disch := (first | (simp only [List.length_set, hl]; omega) | (simp only [List.length_set, el]; omega) | omega | rfl)) only [walkA, walkB, bne_self_eq_false, beq_self_eq_true, Option.map_some, Option.map_none, reduceIte, decide_true, decide_false, Int.reduceLT, Int.reduceLE, Int.reduceMul, Int.reduceAdd, Int.reduceSub, h0, h1, d2])
      refine Wp.cond_true (by first | ((simp (disch := (first | (simp only [List.length_set, hl]; omega) | (simp only [List.length_set, el]; omega) | omega | rfl)) only [sL, aEval_tmp]); done) | ((simp (disch := (first | (simp only [List.length_set, hl]; omega) | (simp only [List.length_set, el]; omega) | omega | rfl)) only [sL, aEval_tmp]); rfl)) ?_
      repeat (first | (with_reducible refine Wp.st ?_; simp only [wS]) | with_reducible refine Wp.drawS (by decide +kernel) ?_ | simp (disch := (first | (simp only [List.length_set, hl]; omega) | (simp only [List.length_set, el]; omega) | omega | rfl)) only [walkA, walkB, bne_self_eq_false, beq_self_eq_true, Option.map_some, Option.map_none, reduceIte, decide_true, decide_false, Int.reduceLT, Int.reduceLE, Int.reduceMul, Int.reduceAdd, Int.reduceSub, h0, h1, faX2, wx])
      simp (disch := (first | (simp only [List.length_set, hl]; omega) | (simp only [List.length_set, el]; omega) | omega | rfl)) only [aRes_one Try.results65, sL]
      rw [e1]
      exact ⟨OutB.nil, r.next r11 (Same.set1 _ _ _) r.pos, Same.set1 _ _ _⟩
    · have d2 : decide ((m : Int) > (bs.length : Int) - (s.1 : Int)) = false := by simpa using hbig
      repeat (first | (with_reducible refine Wp.st ?_; simp only [wS]) | with_reducible refine Wp.drawS (by decide +kernel) ?_ | simp (disch := (first | (simp only [List.length_set, hl]; omega) | (simp only [List.length_set, el]; omega) | omega | rfl)) only [walkA, walkB, bne_self_eq_false, beq_self_eq_true, Option.map_some, Option.map_none, reduceIte, decide_true, decide_false, Int.reduceLT, Int.reduceLE, Int.reduceMul, Int.reduceAdd, Int.reduceSub, h0, h1, d2, bin_quo, a0, a3])
      refine (xLeft_am k T bv bs s h' r).mono ?_
      rintro v h' ⟨rfl, rfl⟩
      have d3 : decide (((m + pad m : Nat) : Int) > (bs.length : Int) - (s.1 : Int)) = true := by simp; omega
      repeat (first | (with_reducible refine Wp.st ?_; simp only [wS]) | with_reducible refine Wp.drawS (by decide +kernel) ?_ | simp (disch := (first | (simp only [List.length_set, hl]; omega) | (simp only [List.length_set, el]; omega) | omega | rfl)) only [walkA, walkB, bne_self_eq_false, beq_self_eq_true, Option.map_some, Option.map_none, reduceIte, decide_true, decide_false, Int.reduceLT, Int.reduceLE, Int.reduceMul, Int.reduceAdd, Int.reduceSub, h0, h1, d2, a0, a3, d3])
      refine Wp.cond_true (by first | ((simp (disch := (first | (simp only [List.length_set, hl]; omega) | (simp only [List.length_set, el]; omega) | omega | rfl)) only [sL, aEval_tmp]); done) | ((simp (disch := (first | (simp only [List.length_set, hl]; omega) | (simp only [List.length_set, el]; omega) | omega | rfl)) only [sL, aEval_tmp]); rfl)) ?_
      repeat (first | (with_reducible refine Wp.st ?_; simp only [wS]) | with_reducible refine Wp.drawS (by decide +kernel) ?_ | simp (disch := (first | (simp only [List.length_set, hl]; omega) | (simp only [List.length_set, el]; omega) | omega | rfl)) only [walkA, walkB, bne_self_eq_false, beq_self_eq_true, Option.map_some, Option.map_none, reduceIte, decide_true, decide_false, Int.reduceLT, Int.reduceLE, Int.reduceMul, Int.reduceAdd, Int.reduceSub, h0, h1, faX2, wx])
      simp (disch := (first | (simp only [List.length_set, hl]; omega) | (simp only [List.length_set, el]; omega) | omega | rfl)) only [aRes_one Try.results65, sL]
      rw [e1]
      exact ⟨OutB.nil, r.next r11 (Same.set1 _ _ _) r.pos, Same.set1 _ _ _⟩
  have d2 : decide ((m : Int) > (bs.length : Int) - (s.1 : Int)) = false := by simp; omega
  have d3 : decide (((m + pad m : Nat) : Int) > (bs.length : Int) - (s.1 : Int)) = false := by simp; omega
  repeat (first | (with_reducible refine Wp.st ?_; simp only [wS]) | with_reducible refine Wp.drawS (by decide +kernel) ?_ | simp (disch := (first | (simp only [List.length_set, hl]; omega) | (simp only [List.length_set, el]; omega) | omega | rfl)) only [walkA, walkB, bne_self_eq_false, beq_self_eq_true, Option.map_some, Option.map_none, reduceIte, decide_true, decide_false, Int.reduceLT, Int.reduceLE, Int.reduceMul, Int.reduceAdd, Int.reduceSub, h0, h1, d2, bin_quo, a0, a3])
  refine (xLeft_am k T bv bs s h' r).mono ?_
  rintro v h' ⟨rfl, rfl⟩
  have lb := r.rd.b
  have lp := r.rd.p
  have a1 : (s.1 : Int) + (m : Int) = ((s.1 + m : Nat) : Int) := by omega
  have hle9 : s.1 + m ≤ (bs.map (Value.int .u8)).length := by rw [List.length_map]; omega
  have H9 := r.row.slice (P := Try.prog) Try.underlying22 i5 rfl (kl := .i64) (kh := .i64) (lo := s.1) (hi' := s.1 + m) (Nat.le_add_right _ _) hle9
  have hsl := H9.choose_spec.1
  have hx1 := H9.choose_spec.2.1
  have hof1 := H9.choose_spec.2.2
  generalize H9.choose = v1 at hsl hx1 hof1
  clear H9
  rw [Nat.add_sub_cancel_left, ← List.map_drop, ← List.map_take] at hx1
  repeat (first | (with_reducible refine Wp.st ?_; simp only [wS]) | with_reducible refine Wp.drawS (by decide +kernel) ?_ | simp (disch := (first | (simp only [List.length_set, hl]; omega) | (simp only [List.length_set, el]; omega) | omega | rfl)) only [walkA, walkB, bne_self_eq_false, beq_self_eq_true, Option.map_some, Option.map_none, reduceIte, decide_true, decide_false, Int.reduceLT, Int.reduceLE, Int.reduceMul, Int.reduceAdd, Int.reduceSub, h0, h1, d2, a0, a3, d3])
  refine Wp.cond_false (by first | ((simp (disch := (first | (simp only [List.length_set, hl]; omega) | (simp only [List.length_set, el]; omega) | omega | rfl)) only [sL, aEval_tmp]); done) | ((simp (disch := (first | (simp only [List.length_set, hl]; omega) | (simp only [List.length_set, el]; omega) | omega | rfl)) only [sL, aEval_tmp]); rfl)) ?_
  repeat (first | (with_reducible refine Wp.st ?_; simp only [wS]) | with_reducible refine Wp.drawS (by decide +kernel) ?_ | simp (disch := (first | (simp only [List.length_set, hl]; omega) | (simp only [List.length_set, el]; omega) | omega | rfl)) only [walkA, walkB, bne_self_eq_false, beq_self_eq_true, Option.map_some, Option.map_none, reduceIte, decide_true, decide_false, Int.reduceLT, Int.reduceLE, Int.reduceMul, Int.reduceAdd, Int.reduceSub, h0, h1, faX0, faX1, lb, lp, a1, WOps_slice2, hsl])
  refine Wp.loop (fun i e hh => ∃ j : Nat, j + i = pad m ∧ e.length = 88 ∧ sl e 0 = .pointer (some ⟨k, 0, none⟩) ∧ sl e 1 = .int .i64 m ∧ sl e 5 = v1 ∧ sl e 6 = .int .i64 (m + j : Nat) ∧ (((bs.drop (s.1 + m)).take (pad m)).take j).all (· == 0) = true ∧ hh = h') (pad m)
    ⟨0, by omega, by simp [hl], by (simp (disch := (first | (simp only [List.length_set, hl]; omega) | (simp only [List.length_set, el]; omega) | omega | rfl)) only [sL, h0]), by (simp (disch := (first | (simp only [List.length_set, hl]; omega) | (simp only [List.length_set, el]; omega) | omega | rfl)) only [sL, h1]), by (simp (disch := (first | (simp only [List.length_set, hl]; omega) | (simp only [List.length_set, el]; omega) | omega | rfl)) only [sL]), by (simp (disch := (first | (simp only [List.length_set, hl]; omega) | (simp only [List.length_set, el]; omega) | omega | rfl)) only [sL, Nat.add_zero]), rfl, rfl⟩ ?_
  clear h0 h1 hl env
  rintro i e hh ⟨j, hj, el, e0, e1, e5, e6, hall, rfl⟩
  have hplen : ((bs.drop (s.1 + m)).take (pad m)).length = pad m := by rw [List.length_take, List.length_drop]; omega
  by_cases hlt : j < pad m
  · have d4 : decide (((m + j : Nat) : Int) < ((m + pad m : Nat) : Int)) = true := by simp; omega
    repeat (first | (with_reducible refine Wp.st ?_; simp only [wS]) | with_reducible refine Wp.drawS (by decide +kernel) ?_ | simp (disch := (first | (simp only [List.length_set, hl]; omega) | (simp only [List.length_set, el]; omega) | omega | rfl)) only [walkA, walkB, bne_self_eq_false, beq_self_eq_true, Option.map_some, Option.map_none, reduceIte, decide_true, decide_false, Int.reduceLT, Int.reduceLE, Int.reduceMul, Int.reduceAdd, Int.reduceSub, e0, e1, e5, e6, bin_quo, a0, a3, d4])
    refine Wp.cond_true (by first | ((simp (disch := (first | (simp only [List.length_set, hl]; omega) | (simp only [List.length_set, el]; omega) | omega | rfl)) only [sL, aEval_tmp]); done) | ((simp (disch := (first | (simp only [List.length_set, hl]; omega) | (simp only [List.length_set, el]; omega) | omega | rfl)) only [sL, aEval_tmp]); rfl)) ?_
    have hpj : s.1 + m + j < bs.length := by omega
    obtain ⟨kk, off, hi1, hi2⟩ := r.row.row.index (P := Try.prog) Try.underlying22 i5 rfl (j := s.1 + m + j) (kd := .i64) (by simpa using hpj)
    rw [← aLoad_one (P := Try.prog) Try.underlying5 (by simp) (by simp), List.getElem_map] at hi2
    have a5 : (s.1 : Int) + ((m + j : Nat) : Int) = ((s.1 + m + j : Nat) : Int) := by omega
    have hg : ((bs.drop (s.1 + m)).take (pad m))[j]'(by omega) = bs[s.1 + m + j] := by rw [List.getElem_take, List.getElem_drop]
    by_cases hb0 : bs[s.1 + m + j] = 0
    · have hb : (bs[s.1 + m + j] != 0) = false := by simp [hb0]
      repeat (first | (with_reducible refine Wp.st ?_; simp only [wS]) | with_reducible refine Wp.drawS (by decide +kernel) ?_ | simp (disch := (first | (simp only [List.length_set, hl]; omega) | (simp only [List.length_set, el]; omega) | omega | rfl)) only [walkA, walkB, bne_self_eq_false, beq_self_eq_true, Option.map_some, Option.map_none, reduceIte, decide_true, decide_false, Int.reduceLT, Int.reduceLE, Int.reduceMul, Int.reduceAdd, Int.reduceSub, e0, e1, e5, e6, faX0, faX1, lb, lp, a5, hi1, hi2, hb])
      refine Wp.cond_false (by first | ((simp (disch := (first | (simp only [List.length_set, hl]; omega) | (simp only [List.length_set, el]; omega) | omega | rfl)) only [sL, aEval_tmp]); done) | ((simp (disch := (first | (simp only [List.length_set, hl]; omega) | (simp only [List.length_set, el]; omega) | omega | rfl)) only [sL, aEval_tmp]); rfl)) ?_
      repeat (first | (with_reducible refine Wp.st ?_; simp only [wS]) | with_reducible refine Wp.drawS (by decide +kernel) ?_ | simp (disch := (first | (simp only [List.length_set, hl]; omega) | (simp only [List.length_set, el]; omega) | omega | rfl)) only [walkA, walkB, bne_self_eq_false, beq_self_eq_true, Option.map_some, Option.map_none, reduceIte, decide_true, decide_false, Int.reduceLT, Int.reduceLE, Int.reduceMul, Int.reduceAdd, Int.reduceSub, e0, e1, e5, e6])
      exact ⟨i - 1, by omega, j + 1, by omega, by simp [el], by (simp (disch := (first | (simp only [List.length_set, hl]; omega) | (simp only [List.length_set, el]; omega) | omega | rfl)) only [sL, e0]), by (simp (disch := (first | (simp only [List.length_set, hl]; omega) | (simp only [List.length_set, el]; omega) | omega | rfl)) only [sL, e1]), by (simp (disch := (first | (simp only [List.length_set, hl]; omega) | (simp only [List.length_set, el]; omega) | omega | rfl)) only [sL, e5]), by (simp (disch := (first | (simp only [List.length_set, hl]; omega) | (simp only [List.length_set, el]; omega) | omega | rfl)) only [sL, Int.natCast_add]); first | rfl | (congr 1; omega), by rw [List.take_succ_eq_append_getElem (by omega), List.all_append, hall, hg]; simp [hb0], trivial⟩
    · have hb : (bs[s.1 + m + j] != 0) = true := by simpa using hb0
      have w15 := r.rd.wx 15
      have r15 := r.rd.sete 15
      repeat (first | (with_reducible refine Wp.st ?_; simp only [wS]) | with_reducible refine Wp.drawS (by decide +kernel) ?_ | simp (disch := (first | (simp only [List.length_set, hl]; omega) | (simp only [List.length_set, el]; omega) | omega | rfl)) only [walkA, walkB, bne_self_eq_false, beq_self_eq_true, Option.map_some, Option.map_none, reduceIte, decide_true, decide_false, Int.reduceLT, Int.reduceLE, Int.reduceMul, Int.reduceAdd, Int.reduceSub, e0, e1, e5, e6, faX0, faX1, lb, lp, a5, hi1, hi2, hb])
      refine Wp.cond_true (by first | ((simp (disch := (first | (simp only [List.length_set, hl]; omega) | (simp only [List.length_set, el]; omega) | omega | rfl)) only [sL, aEval_tmp]); done) | ((simp (disch := (first | (simp only [List.length_set, hl]; omega) | (simp only [List.length_set, el]; omega) | omega | rfl)) only [sL, aEval_tmp]); rfl)) ?_
      repeat (first | (with_reducible refine Wp.st ?_; simp only [wS]) | with_reducible refine Wp.drawS (by decide +kernel) ?_ | simp (disch := (first | (simp only [List.length_set, hl]; omega) | (simp only [List.length_set, el]; omega) | omega | rfl)) only [walkA, walkB, bne_self_eq_false, beq_self_eq_true, Option.map_some, Option.map_none, reduceIte, decide_true, decide_false, Int.reduceLT, Int.reduceLE, Int.reduceMul, Int.reduceAdd, Int.reduceSub, e0, e1, faX2, w15])
      simp (disch := (first | (simp only [List.length_set, hl]; omega) | (simp only [List.length_set, el]; omega) | omega | rfl)) only [aRes_one Try.results65, sL]
      have e1 : rFixed bs m s = ([], s.1, 15) := by
        unfold rFixed
        have hna : ¬ (((bs.drop (s.1 + m)).take (pad m)).all (· == 0) = true) := fun hh => hb0 (by
          have := List.all_eq_true.1 hh _ (List.getElem_mem (n := j) (by omega))
          rw [hg] at this; simpa using this)
        rw [if_neg hz, if_neg hneg, if_neg (by simpa using hcut), Int.toNat_natCast, if_neg hna]
      rw [e1]
      exact ⟨OutB.nil, r.next r15 (Same.set1 _ _ _) r.pos, Same.set1 _ _ _⟩
  · have d4 : decide (((m + j : Nat) : Int) < ((m + pad m : Nat) : Int)) = false := by simp; omega
    have hjl : j = pad m := by omega
    subst hjl
    rw [List.take_take, Nat.min_self] at hall
    repeat (first | (with_reducible refine Wp.st ?_; simp only [wS]) | with_reducible refine Wp.drawS (by decide +kernel) ?_ | simp (disch := (first | (simp only [List.length_set, hl]; omega) | (simp only [List.length_set, el]; omega) | omega | rfl)) only [walkA, walkB, bne_self_eq_false, beq_self_eq_true, Option.map_some, Option.map_none, reduceIte, decide_true, decide_false, Int.reduceLT, Int.reduceLE, Int.reduceMul, Int.reduceAdd, Int.reduceSub, e0, e1, e5, e6, bin_quo, a0, a3, d4])
    refine Wp.cond_false (by first | ((simp (disch := (first | (simp only [List.length_set, hl]; omega) | (simp only [List.length_set, el]; omega) | omega | rfl)) only [sL, aEval_tmp]); done) | ((simp (disch := (first | (simp only [List.length_set, hl]; omega) | (simp only [List.length_set, el]; omega) | omega | rfl)) only [sL, aEval_tmp]); rfl)) ?_
    have a6 : (s.1 : Int) + ((m + pad m : Nat) : Int) = ((s.1 + m + pad m : Nat) : Int) := by omega
    have wp := r.rd.wp ((s.1 + m + pad m : Nat) : Int)
    have r3 := r.rd.setp (s.1 + m + pad m)
    have s3 : Same hh (hh.set k (.cells [bv, .int .i64 (s.1 + m + pad m : Nat), .int .i64 s.2] T false)) (onlyS k) := Same.set1 _ _ _
    have ro := r.next r3 s3 (by show s.1 + m + pad m ≤ bs.length; omega)
    have hx2 := hx1.same s3 (fun a n c ev hn => by
      obtain ⟨a0, n0, c0, x1, x2, x3⟩ := hof1 a n c ev hn
      intro hh; rw [x3] at hh; exact r.off a0 n0 c0 x1 x2 hh)
    generalize (hh.set k (.cells [bv, .int .i64 (s.1 + m + pad m : Nat), .int .i64 s.2] T false)) = h2 at wp r3 s3 ro hx2
    have hs0 : Same h2 (h2.push (.cells [] 5 false)) noS := Same.push _ _ _
    have hb2 := hx2.row.same hs0 (fun _ _ _ _ _ x => x)
    have hbuf : Buf (h2.push (.cells [] 5 false)) 5 (.slice (some ⟨h2.next, 0, none⟩) 0 0) [] := .inr (.inl ⟨rfl, h2.next, [], 5, false, rfl, Heap.get_push_new⟩)
    obtain ⟨v2, hh2, ha2, hbv, hs1, hf1⟩ := Buf.append (P := Try.prog) hbuf Try.underlying22 i5 rfl rfl rfl rfl (hb2.src Try.underlying22 (by simp) rfl) rfl (ints_all _ _) (small_of (by simp; omega)) (small_of (by simp [Try.t5]; omega))
    repeat (first | (with_reducible refine Wp.st ?_; simp only [wS]) | with_reducible refine Wp.drawS (by decide +kernel) ?_ | simp (disch := (first | (simp only [List.length_set, hl]; omega) | (simp only [List.length_set, el]; omega) | omega | rfl)) only [walkA, walkB, bne_self_eq_false, beq_self_eq_true, Option.map_some, Option.map_none, reduceIte, decide_true, decide_false, Int.reduceLT, Int.reduceLE, Int.reduceMul, Int.reduceAdd, Int.reduceSub, e0, e1, e5, e6, faX1, lp, bin_quo, a0, a3, a6, wp, slice_none, builtin_append, ha2])
    simp (disch := (first | (simp only [List.length_set, hl]; omega) | (simp only [List.length_set, el]; omega) | omega | rfl)) only [aRes_one Try.results65, sL]
    have e1 : rFixed bs m s = ((bs.drop s.1).take m, s.1 + m + pad m, 0) := by
      unfold rFixed
      rw [if_neg hz, if_neg hneg, if_neg (by simpa using hcut), Int.toNat_natCast, if_pos hall]
    have hfr : ∀ j, bufBlk (.slice (some ⟨h2.next, 0, none⟩) 0 0) j → h2.next ≤ j := by
      rintro j ⟨o, m, d, hh⟩
      injection hh with hh; injection hh with hh; injection hh with hh
      omega
    have s4 : Same h2 hh2 noS := hs0.trans hs1 (fun _ x => x) (fun b hb x => absurd (hfr b x) (by omega))
    rw [e1, ← hz']
    refine ⟨⟨by simpa using hbv, fun b x => Nat.le_trans s3.1 ((hf1 b x).elim (hfr b) (fun y => Nat.le_trans (by simp) y))⟩, ro.same s4 (fun x => x) (fun _ _ _ _ _ x => x), s3.then s4.none⟩
theorem xBytes_am (most : Int) (k : Nat) (T : TypeId) (bv : Value) (bs : List Int) (s : Nat × Int) (h : Heap) (r : RdOK h k T bv bs s) (hm1 : -9223372036854775808 ≤ most) (hm2 : most ≤ 9223372036854775807) :
    Cl Try.prog 33 [.pointer (some ⟨k, 0, none⟩), .int .i64 most] h fun v h' => OutB h h' v (rBytes bs most s).1 ∧ RdOK h' k T bv bs (rBytes bs most s).2 ∧ Same h h' (onlyS k) := by
  refine Cl.enter Try.func33 rfl 40 Try.ntmps33 (by simp) ?_
  intro env hl ha
  have h0 : sl env 0 = .pointer (some ⟨k, 0, none⟩) := ha 0 (by simp)
  have h1 : sl env 1 = .int .i64 most := ha 1 (by simp)
  clear ha
  have lp := r.rd.p
  obtain ⟨hr1, hr2⟩ := rNum_le bs r.byte s
  have w1 : IntKind.u32.wrap (rNum bs 4 s).1 = (rNum bs 4 s).1 := wrap_u32 hr1 hr2
  have w2 : IntKind.i64.wrap (rNum bs 4 s).1 = (rNum bs 4 s).1 := wrap_i64 (by omega) (by omega)
  have w3 : IntKind.i64.wrap most = most := wrap_i64 (by omega) (by omega)
  have hcv := fun x hx => conv_int (h := hx) (k' := .u32) (n := x) Try.underlying23 Try.underlying3
  have hcv2 := fun x hx => conv_int (h := hx) (k' := .u32) (n := x) Try.underlying23 Try.underlying2
  have hcv3 := fun x hx => conv_int (h := hx) (k' := .i64) (n := x) Try.underlying3 Try.underlying2
  repeat (first | (with_reducible refine Wp.st ?_; simp only [wS]) | with_reducible refine Wp.drawS (by decide +kernel) ?_ | simp (disch := (first | (simp only [List.length_set, hl]; omega) | omega | rfl)) only [walkA, walkB, bne_self_eq_false, beq_self_eq_true, Option.map_some, Option.map_none, reduceIte, decide_true, decide_false, Int.reduceLT, Int.reduceLE, Int.reduceMul, Int.reduceAdd, Int.reduceSub, h0, h1, faX1, lp])
  refine (xU32_am k T bv bs s h r).mono ?_
  rintro v h1' ⟨rfl, r1, s1⟩
  have lx := r1.rd.x
  by_cases hz : (rNum bs 4 s).2.2 ≠ 0
  · have hzb : ((rNum bs 4 s).2.2 != 0) = true := by simpa using hz
    repeat (first | (with_reducible refine Wp.st ?_; simp only [wS]) | with_reducible refine Wp.drawS (by decide +kernel) ?_ | simp (disch := (first | (simp only [List.length_set, hl]; omega) | omega | rfl)) only [walkA, walkB, bne_self_eq_false, beq_self_eq_true, Option.map_some, Option.map_none, reduceIte, decide_true, decide_false, Int.reduceLT, Int.reduceLE, Int.reduceMul, Int.reduceAdd, Int.reduceSub, h0, h1, faX2, lx, hzb])
    refine Wp.cond_true (by first | ((simp (disch := (first | (simp only [List.length_set, hl]; omega) | omega | rfl)) only [sL, aEval_tmp]); done) | ((simp (disch := (first | (simp only [List.length_set, hl]; omega) | omega | rfl)) only [sL, aEval_tmp]); rfl)) ?_
    repeat (first | (with_reducible refine Wp.st ?_; simp only [wS]) | with_reducible refine Wp.drawS (by decide +kernel) ?_ | simp (disch := (first | (simp only [List.length_set, hl]; omega) | omega | rfl)) only [walkA, walkB, bne_self_eq_false, beq_self_eq_true, Option.map_some, Option.map_none, reduceIte, decide_true, decide_false, Int.reduceLT, Int.reduceLE, Int.reduceMul, Int.reduceAdd, Int.reduceSub, h0, h1])
    simp (disch := (first | (simp only [List.length_set, hl]; omega) | omega | rfl)) only [aRes_one Try.results33, sL]
    have eb : rBytes bs most s = ([], s.1, (rNum bs 4 s).2.2) := by unfold rBytes; rw [if_pos hz]
    have ep := (rNum_err bs s hz).2
    rw [eb, ← ep]
    exact ⟨OutB.nil, r1, s1⟩
  have hz' : (rNum bs 4 s).2.2 = 0 := by omega
  have hzb : ((rNum bs 4 s).2.2 != 0) = false := by simp [hz']
  repeat (first | (with_reducible refine Wp.st ?_; simp only [wS]) | with_reducible refine Wp.drawS (by decide +kernel) ?_ | simp (disch := (first | (simp only [List.length_set, hl]; omega) | omega | rfl)) only [walkA, walkB, bne_self_eq_false, beq_self_eq_true, Option.map_some, Option.map_none, reduceIte, decide_true, decide_false, Int.reduceLT, Int.reduceLE, Int.reduceMul, Int.reduceAdd, Int.reduceSub, h0, h1, faX2, lx, hzb])
  refine Wp.cond_false (by first | ((simp (disch := (first | (simp only [List.length_set, hl]; omega) | omega | rfl)) only [sL, aEval_tmp]); done) | ((simp (disch := (first | (simp only [List.length_set, hl]; omega) | omega | rfl)) only [sL, aEval_tmp]); rfl)) ?_
  by_cases hgt : (rNum bs 4 s).1 > most
  · have d1 : decide ((rNum bs 4 s).1 > most) = true := by simpa using hgt
    repeat (first | (with_reducible refine Wp.st ?_; simp only [wS]) | with_reducible refine Wp.drawS (by decide +kernel) ?_ | simp (disch := (first | (simp only [List.length_set, hl]; omega) | omega | rfl)) only [walkA, walkB, bne_self_eq_false, beq_self_eq_true, Option.map_some, Option.map_none, reduceIte, decide_true, decide_false, Int.reduceLT, Int.reduceLE, Int.reduceMul, Int.reduceAdd, Int.reduceSub, h0, h1, hcv, hcv2, hcv3, w1, w2, w3, d1])
    refine Wp.cond_true (by first | ((simp (disch := (first | (simp only [List.length_set, hl]; omega) | omega | rfl)) only [sL, aEval_tmp]); done) | ((simp (disch := (first | (simp only [List.length_set, hl]; omega) | omega | rfl)) only [sL, aEval_tmp]); rfl)) ?_
    repeat (first | (with_reducible refine Wp.st ?_; simp only [wS]) | with_reducible refine Wp.drawS (by decide +kernel) ?_ | simp (disch := (first | (simp only [List.length_set, hl]; omega) | omega | rfl)) only [walkA, walkB, bne_self_eq_false, beq_self_eq_true, Option.map_some, Option.map_none, reduceIte, decide_true, decide_false, Int.reduceLT, Int.reduceLE, Int.reduceMul, Int.reduceAdd, Int.reduceSub, h0, h1])
    refine (xFail_am s.1 5 k T bv _ h1' r1.rd).mono ?_
    rintro v h2 ⟨rfl, r2, s2⟩
    repeat (first | (with_reducible refine Wp.st ?_; simp only [wS]) | with_reducible refine Wp.drawS (by decide +kernel) ?_ | simp (disch := (first | (simp only [List.length_set, hl]; omega) | omega | rfl)) only [walkA, walkB, bne_self_eq_false, beq_self_eq_true, Option.map_some, Option.map_none, reduceIte, decide_true, decide_false, Int.reduceLT, Int.reduceLE, Int.reduceMul, Int.reduceAdd, Int.reduceSub, h0, h1])
    simp (disch := (first | (simp only [List.length_set, hl]; omega) | omega | rfl)) only [aRes_one Try.results33, sL]
    have eb : rBytes bs most s = ([], s.1, 5) := by unfold rBytes; rw [if_neg hz, if_pos hgt]
    rw [eb]
    exact ⟨OutB.nil, r.next r2 (s1.then s2) r.pos, s1.then s2⟩
  have d1 : decide ((rNum bs 4 s).1 > most) = false := by simpa using hgt
  repeat (first | (with_reducible refine Wp.st ?_; simp only [wS]) | with_reducible refine Wp.drawS (by decide +kernel) ?_ | simp (disch := (first | (simp only [List.length_set, hl]; omega) | omega | rfl)) only [walkA, walkB, bne_self_eq_false, beq_self_eq_true, Option.map_some, Option.map_none, reduceIte, decide_true, decide_false, Int.reduceLT, Int.reduceLE, Int.reduceMul, Int.reduceAdd, Int.reduceSub, h0, h1, hcv, hcv2, hcv3, w1, w2, w3, d1])
  refine Wp.cond_false (by first | ((simp (disch := (first | (simp only [List.length_set, hl]; omega) | omega | rfl)) only [sL, aEval_tmp]); done) | ((simp (disch := (first | (simp only [List.length_set, hl]; omega) | omega | rfl)) only [sL, aEval_tmp]); rfl)) ?_
  repeat (first | (with_reducible refine Wp.st ?_; simp only [wS]) | with_reducible refine Wp.drawS (by decide +kernel) ?_ | simp (disch := (first | (simp only [List.length_set, hl]; omega) | omega | rfl)) only [walkA, walkB, bne_self_eq_false, beq_self_eq_true, Option.map_some, Option.map_none, reduceIte, decide_true, decide_false, Int.reduceLT, Int.reduceLE, Int.reduceMul, Int.reduceAdd, Int.reduceSub, h0, h1, hcv, hcv2, hcv3, w1, w2])
  refine (xFixed_am (rNum bs 4 s).1 (by omega) (by omega) k T bv bs _ h1' r1).mono ?_
  rintro out h3 ⟨ob, r3, s3⟩
  have lx3 := r3.rd.x
  by_cases hz3 : (rFixed bs (rNum bs 4 s).1 (rNum bs 4 s).2).2.2 = 0
  · have hzb3 : ((rFixed bs (rNum bs 4 s).1 (rNum bs 4 s).2).2.2 != 0) = false := by simp [hz3]
    repeat (first | (with_reducible refine Wp.st ?_; simp only [wS]) | with_reducible refine Wp.drawS (by decide +kernel) ?_ | simp (disch := (first | (simp only [List.length_set, hl]; omega) | omega | rfl)) only [walkA, walkB, bne_self_eq_false, beq_self_eq_true, Option.map_some, Option.map_none, reduceIte, decide_true, decide_false, Int.reduceLT, Int.reduceLE, Int.reduceMul, Int.reduceAdd, Int.reduceSub, h0, h1, faX2, lx3, hzb3])
    refine Wp.cond_false (by first | ((simp (disch := (first | (simp only [List.length_set, hl]; omega) | omega | rfl)) only [sL, aEval_tmp]); done) | ((simp (disch := (first | (simp only [List.length_set, hl]; omega) | omega | rfl)) only [sL, aEval_tmp]); rfl)) ?_
    repeat (first | (with_reducible refine Wp.st ?_; simp only [wS]) | with_reducible refine Wp.drawS (by decide +kernel) ?_ | simp (disch := (first | (simp only [List.length_set, hl]; omega) | omega | rfl)) only [walkA, walkB, bne_self_eq_false, beq_self_eq_true, Option.map_some, Option.map_none, reduceIte, decide_true, decide_false, Int.reduceLT, Int.reduceLE, Int.reduceMul, Int.reduceAdd, Int.reduceSub, h0, h1])
    simp (disch := (first | (simp only [List.length_set, hl]; omega) | omega | rfl)) only [aRes_one Try.results33, sL]
    have eb : rBytes bs most s = rFixed bs (rNum bs 4 s).1 (rNum bs 4 s).2 := by unfold rBytes; rw [if_neg hz, if_neg hgt, if_neg (by simp [hz3])]
    rw [eb]
    exact ⟨ob.back s1, r3, s1.then s3⟩
  · have hzb3 : ((rFixed bs (rNum bs 4 s).1 (rNum bs 4 s).2).2.2 != 0) = true := by simpa using hz3
    have wp := r3.rd.wp s.1
    have r4 := r3.rd.setp s.1
    repeat (first | (with_reducible refine Wp.st ?_; simp only [wS]) | with_reducible refine Wp.drawS (by decide +kernel) ?_ | simp (disch := (first | (simp only [List.length_set, hl]; omega) | omega | rfl)) only [walkA, walkB, bne_self_eq_false, beq_self_eq_true, Option.map_some, Option.map_none, reduceIte, decide_true, decide_false, Int.reduceLT, Int.reduceLE, Int.reduceMul, Int.reduceAdd, Int.reduceSub, h0, h1, faX2, lx3, hzb3])
    refine Wp.cond_true (by first | ((simp (disch := (first | (simp only [List.length_set, hl]; omega) | omega | rfl)) only [sL, aEval_tmp]); done) | ((simp (disch := (first | (simp only [List.length_set, hl]; omega) | omega | rfl)) only [sL, aEval_tmp]); rfl)) ?_
    repeat (first | (with_reducible refine Wp.st ?_; simp only [wS]) | with_reducible refine Wp.drawS (by decide +kernel) ?_ | simp (disch := (first | (simp only [List.length_set, hl]; omega) | omega | rfl)) only [walkA, walkB, bne_self_eq_false, beq_self_eq_true, Option.map_some, Option.map_none, reduceIte, decide_true, decide_false, Int.reduceLT, Int.reduceLE, Int.reduceMul, Int.reduceAdd, Int.reduceSub, h0, h1, faX1, wp])
    simp (disch := (first | (simp only [List.length_set, hl]; omega) | omega | rfl)) only [aRes_one Try.results33, sL]
    have eb : rBytes bs most s = ([], s.1, (rFixed bs (rNum bs 4 s).1 (rNum bs 4 s).2).2.2) := by unfold rBytes; rw [if_neg hz, if_neg hgt, if_pos hz3]
    have s4 := (s1.then s3).then (Same.set1 h3 k (.cells [bv, .int .i64 s.1, .int .i64 (rFixed bs (rNum bs 4 s).1 (rNum bs 4 s).2).2.2] T false))
    rw [eb]
    exact ⟨OutB.nil, r.next r4 s4 r.pos, s4⟩
end Go.Proofs.Ytanknjpcgceccaa
