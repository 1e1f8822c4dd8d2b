/- What the reference's In comes to, over the abstract machine: what is set. -/
import Derived.Test.YtanknjpcgceccaaArgs5
import Derived.Test.YtanknjpcgceccaaArgs9

namespace Go.Proofs.Ytanknjpcgceccaa
open Go Go.AM
set_option linter.unusedSimpArgs false
set_option maxRecDepth 100000
def XRS (Z : Nat → Prop) (H0 h : Heap) (ki kr : Nat) (bv : Value) (bs : List Int) (x : RS) (kt : Nat) (T : TypeId) (L : List Blk) : Prop := XR Z H0 h ki kr bv bs x.s x.bad ((kt, x.cs, T) :: L)
abbrev TS : TypeId := 28
theorem iSet : Try.prog.info? 28 = some Try.t28 := by kernel_rfl
theorem alSet {h : Heap} : aAlloc Try.prog h 28 = some (pt h.next 0, h.push (.cells sattrZ TS false)) := by kernel_rfl
theorem num_all {x : Int} {b : Bool} (h0 : 0 ≤ x) (h1 : x < 4294967296) : (b || !(decide (0 ≤ x) && decide (x ≤ 4294967295))) = b := by
  have e1 : decide (0 ≤ x) = true := decide_eq_true h0
  have e2 : decide (x ≤ 4294967295) = true := decide_eq_true (by omega)
  rw [e1, e2]; simp
theorem noTime_id {x : RS} {t : Nat} (h1 : x.cs[t]? = some (.int .u32 0)) (h2 : x.cs[t + 1]? = some (.int .u32 0)) : pNoTime t x = x := by
  obtain ⟨l1, e1⟩ := List.getElem?_eq_some_iff.1 h1
  obtain ⟨l2, e2⟩ := List.getElem?_eq_some_iff.1 h2
  have e3 : x.cs.set t (.int .u32 0) = x.cs := by rw [← e1]; exact List.set_getElem_self l1
  have e4 : x.cs.set (t + 1) (.int .u32 0) = x.cs := by rw [← e2]; exact List.set_getElem_self l2
  cases x
  simp only [pNoTime] at e3 e4 ⊢
  rw [e3, e4]
section
variable {Z : Nat → Prop} {H0 h : Heap} {ki kr : Nat} {bv : Value} {bs : List Int} {L : List Blk} {x : RS} {kt o : Nat} {T : TypeId}
theorem XRS.bool (c : XRS Z H0 h ki kr bv bs x kt T L) (ho : o < x.cs.length) {h1 : Heap} (r : RdOK h1 kr TR bv bs (rBool bs x.s).2) (hs : Same h h1 (onlyS kr)) :
    ∃ h2, aStore Try.prog h1 4 (pt kt o) (.bool (rBool bs x.s).1) = some h2 ∧ XRS Z H0 h2 ki kr bv bs (pBool bs o x) kt T L ∧ aLoad Try.prog h2 4 (pt kt o) = some (.bool (rBool bs x.s).1) := by
  obtain ⟨h2, p1, c2⟩ := (XR.read c r hs).put' iB rfl o ho (v := .bool (rBool bs x.s).1) rfl rfl
  refine ⟨h2, p1, c2, ?_⟩
  rw [c2.ld Try.underlying4 (by simp) (by simp) o, List.getElem?_set_self ho]
theorem XRS.u64 (c : XRS Z H0 h ki kr bv bs x kt T L) (ho : o < x.cs.length) {h1 : Heap} (r : RdOK h1 kr TR bv bs (rNum bs 8 x.s).2) (hs : Same h h1 (onlyS kr)) :
    ∃ h2, aStore Try.prog h1 24 (pt kt o) (.int .u64 (rNum bs 8 x.s).1) = some h2 ∧ XRS Z H0 h2 ki kr bv bs (pU64 bs o x) kt T L := by
  obtain ⟨h2, p1, c2⟩ := (XR.read c r hs).put' iU64 rfl o ho (v := .int .u64 (rNum bs 8 x.s).1) rfl rfl
  exact ⟨h2, p1, c2⟩
theorem XRS.u32 {h1 : Heap} (ho : o < x.cs.length) (c1 : XR Z H0 h1 ki kr bv bs (rNum bs 4 x.s).2 x.bad ((kt, x.cs, T) :: L)) :
    ∃ h2, aStore Try.prog h1 23 (pt kt o) (.int .u32 (rNum bs 4 x.s).1) = some h2 ∧ XRS Z H0 h2 ki kr bv bs (pU32 bs o x) kt T L := by
  obtain ⟨h2, p1, c2⟩ := c1.put' iU32 rfl o ho (v := .int .u32 (rNum bs 4 x.s).1) rfl rfl
  exact ⟨h2, p1, c2⟩
theorem XRS.num {a b : Int} {h1 : Heap} (ho : o < x.cs.length) (c1 : XR Z H0 h1 ki kr bv bs (rNum bs 4 x.s).2 (x.bad || !(decide (a ≤ (rNum bs 4 x.s).1) && decide ((rNum bs 4 x.s).1 ≤ b))) ((kt, x.cs, T) :: L)) :
    ∃ h2, aStore Try.prog h1 3 (pt kt o) (.int .i64 (rNum bs 4 x.s).1) = some h2 ∧ XRS Z H0 h2 ki kr bv bs (pNum bs o a b x) kt T L ∧ aLoad Try.prog h2 3 (pt kt o) = some (.int .i64 (rNum bs 4 x.s).1) := by
  obtain ⟨h2, p1, c2⟩ := c1.put' i3' rfl o ho (v := .int .i64 (rNum bs 4 x.s).1) rfl rfl
  refine ⟨h2, p1, c2, ?_⟩
  rw [c2.ld Try.underlying3 (by simp) (by simp) o, List.getElem?_set_self ho]
theorem XRS.time {h1 : Heap} (ho : o + 1 < x.cs.length) (c1 : XR Z H0 h1 ki kr bv bs (rNum bs 4 (rNum bs 4 x.s).2).2 x.bad ((kt, x.cs, T) :: L)) :
    ∃ h2, aStore Try.prog h1 26 (pt kt o) (.agg #[.int .u32 (rNum bs 4 x.s).1, .int .u32 (rNum bs 4 (rNum bs 4 x.s).2).1]) = some h2 ∧ XRS Z H0 h2 ki kr bv bs (pTime bs o x) kt T L := by
  obtain ⟨h2, p1, c2⟩ := c1.two' ho (a := .int .u32 (rNum bs 4 x.s).1) (b := .int .u32 (rNum bs 4 (rNum bs 4 x.s).2).1) rfl rfl
  exact ⟨h2, p1, c2⟩
theorem XRS.text {m : Int} {h1 : Heap} (ho : o < x.cs.length) (c1 : XR Z H0 h1 ki kr bv bs (rBytes bs m x.s).2 x.bad ((kt, x.cs, T) :: L)) :
    ∃ h2, aStore Try.prog h1 9 (pt kt o) (.string (strS ((rBytes bs m x.s).1.map (Value.int .u8)))) = some h2 ∧ XRS Z H0 h2 ki kr bv bs (pText bs o m x) kt T L := by
  obtain ⟨h2, p1, c2⟩ := c1.put' iStr rfl o ho (v := .string (strS ((rBytes bs m x.s).1.map (Value.int .u8)))) rfl rfl
  exact ⟨h2, p1, c2⟩
end
def SX (N : Nat) (ki k2 ks : Nat) (A : Heap → Prop) : AX → List Value → Heap → Prop := fun ax e h' => ax = .normal ∧ e.length = N ∧ sl e 0 = pt ki 0 ∧ sl e 2 = pt k2 0 ∧ sl e 3 = pt ks 0 ∧ A h'
section
variable {Z : Nat → Prop} {H0 h : Heap} {ki kr : Nat} {bv : Value} {bs : List Int} {L : List Blk} {s : Nat × Int} {bad : Bool}
set_option maxHeartbeats 0 in
theorem inSet_am (c : XR Z H0 h ki kr bv bs s bad L) :
    Cl Try.prog 27 [pt ki 0] h fun v h' => v = .agg (pSet bs 0 ⟨s, bad, sattrZ⟩).cs.toArray ∧ XR Z H0 h' ki kr bv bs (pSet bs 0 ⟨s, bad, sattrZ⟩).s (pSet bs 0 ⟨s, bad, sattrZ⟩).bad L := by
  refine Cl.enter Try.func27 rfl 71 Try.ntmps27 (by simp) ?_
  intro env hl ha
  have h0 : sl env 0 = pt ki 0 := ha 0 (by simp)
  clear ha
  have al1 := alSet (h := h)
  have c1 := c.alloc sattrZ TS
  have by0 := c.byte
  generalize h.push (.cells sattrZ TS false) = hb at al1 c1
  generalize h.next = k2 at al1 c1
  have al2 := alSet (h := hb)
  have c2 := c1.alloc sattrZ TS
  generalize hb.push (.cells sattrZ TS false) = hc at al2 c2
  generalize hb.next = ks at al2 c2
  obtain ⟨x, hx⟩ : ∃ x : RS, x = ⟨s, bad, sattrZ⟩ := ⟨_, rfl⟩
  rw [← hx]
  have c : XRS Z H0 hc ki kr bv bs x ks TS ((k2, sattrZ, TS) :: L) := by rw [hx]; exact c2
  have e2 := True.intro
  have e3 := True.intro
  have hlen : x.cs.length = 14 := by rw [hx]; rfl
  have hone : One x.cs := by rw [hx]; unfold One; rfl
  have z10 : ∀ i, i = 10 ∨ i = 11 ∨ i = 12 ∨ i = 13 → x.cs[i]? = some (.int .u32 0) := by
    rintro i (rfl | rfl | rfl | rfl) <;> (rw [hx]; rfl)
  clear hx c1 c2
  unfold pSet
  simp only [Nat.zero_add]
  have lr := XR.lr c
  repeat (first | (with_reducible refine Wp.st ?_; simp only [wS]) | with_reducible refine Wp.drawS (by decide +kernel) ?_ | simp (disch := (first | (simp only [List.length_set, hl]; omega) | omega | rfl)) only [walkA, walkB, bne_self_eq_false, beq_self_eq_true, Option.map_some, Option.map_none, reduceIte, decide_true, decide_false, Int.reduceLT, Int.reduceLE, Int.reduceMul, Int.reduceAdd, Int.reduceSub, h0, e2, e3, faN0, lr, al1, al2])
  refine (xBool_am kr _ bv bs _ _ (XR.rd c)).mono ?_
  intro v ha q
  rw [q.1]
  obtain ⟨hd, p1, c1, ld⟩ := XRS.bool (o := 0) c (by omega) q.2.1 q.2.2
  clear q lr
  repeat (first | (with_reducible refine Wp.st ?_; simp only [wS]) | with_reducible refine Wp.drawS (by decide +kernel) ?_ | simp (disch := (first | (simp only [List.length_set, hl]; omega) | omega | rfl)) only [walkA, walkB, bne_self_eq_false, beq_self_eq_true, Option.map_some, Option.map_none, reduceIte, decide_true, decide_false, Int.reduceLT, Int.reduceLE, Int.reduceMul, Int.reduceAdd, Int.reduceSub, h0, e2, e3, faS0, p1, ld])
  refine Wp.mono (Q := SX 71 ki k2 ks fun h' => XRS Z H0 h' ki kr bv bs (pIf bs 0 (pNum bs 4 0 4294967295) x) ks TS ((k2, sattrZ, TS) :: L)) ?_ ?_
  · cases hb : (rBool bs x.s).1 with
    | true =>
      have e1 : pIf bs 0 (pNum bs 4 0 4294967295) x = pNum bs 4 0 4294967295 (pBool bs 0 x) := by unfold pIf; rw [if_pos hb]
      rw [e1]
      refine Wp.cond_true (by first | ((simp (disch := (first | (simp only [List.length_set, hl]; omega) | omega | rfl)) only [sL, aEval_tmp, hb]); done) | ((simp (disch := (first | (simp only [List.length_set, hl]; omega) | omega | rfl)) only [sL, aEval_tmp, hb]); rfl)) ?_
      repeat (first | (with_reducible refine Wp.st ?_; simp only [wS]) | with_reducible refine Wp.drawS (by decide +kernel) ?_ | simp (disch := (first | (simp only [List.length_set, hl]; omega) | omega | rfl)) only [walkA, walkB, bne_self_eq_false, beq_self_eq_true, Option.map_some, Option.map_none, reduceIte, decide_true, decide_false, Int.reduceLT, Int.reduceLE, Int.reduceMul, Int.reduceAdd, Int.reduceSub, h0, e2, e3])
      refine (inU32_am c1).mono ?_
      intro v hc q
      rw [q.1]
      obtain ⟨r1, r2⟩ := rNum_le bs by0 (pBool bs 0 x).s
      have w2 : IntKind.i64.wrap (rNum bs 4 (pBool bs 0 x).s).1 = (rNum bs 4 (pBool bs 0 x).s).1 := wrap_i64 (by omega) (by omega)
      have hcv := fun x hx => conv_int (h := hx) (k' := .u32) (n := x) Try.underlying23 Try.underlying3
      have q2 := q.2
      rw [← num_all (b := (pBool bs 0 x).bad) r1 r2] at q2
      obtain ⟨hg, p2, c2, _⟩ := XRS.num (o := 4) (x := pBool bs 0 x) (by rw [pBool_len]; omega) q2
      repeat (first | (with_reducible refine Wp.st ?_; simp only [wS]) | with_reducible refine Wp.drawS (by decide +kernel) ?_ | simp (disch := (first | (simp only [List.length_set, hl]; omega) | omega | rfl)) only [walkA, walkB, bne_self_eq_false, beq_self_eq_true, Option.map_some, Option.map_none, reduceIte, decide_true, decide_false, Int.reduceLT, Int.reduceLE, Int.reduceMul, Int.reduceAdd, Int.reduceSub, h0, e2, e3, hcv, w2, faS4, p2])
      exact ⟨rfl, by simp [hl], (by first | ((simp (disch := (first | (simp only [List.length_set, hl]; omega) | omega | rfl)) only [sL, h0]); done) | rfl | trivial | ((simp (disch := (first | (simp only [List.length_set, hl]; omega) | omega | rfl)) only [sL, h0]); rfl)), (by first | ((simp (disch := (first | (simp only [List.length_set, hl]; omega) | omega | rfl)) only [sL, e2]); done) | rfl | trivial | ((simp (disch := (first | (simp only [List.length_set, hl]; omega) | omega | rfl)) only [sL, e2]); rfl)), (by first | ((simp (disch := (first | (simp only [List.length_set, hl]; omega) | omega | rfl)) only [sL, e3]); done) | rfl | trivial | ((simp (disch := (first | (simp only [List.length_set, hl]; omega) | omega | rfl)) only [sL, e3]); rfl)), c2⟩
    | false =>
      have e1 : pIf bs 0 (pNum bs 4 0 4294967295) x = pBool bs 0 x := by unfold pIf; rw [if_neg (by simp [hb])]
      rw [e1]
      refine Wp.cond_false (by first | ((simp (disch := (first | (simp only [List.length_set, hl]; omega) | omega | rfl)) only [sL, aEval_tmp, hb]); done) | ((simp (disch := (first | (simp only [List.length_set, hl]; omega) | omega | rfl)) only [sL, aEval_tmp, hb]); rfl)) ?_
      repeat (first | (with_reducible refine Wp.st ?_; simp only [wS]) | with_reducible refine Wp.drawS (by decide +kernel) ?_ | simp (disch := (first | (simp only [List.length_set, hl]; omega) | omega | rfl)) only [walkA, walkB, bne_self_eq_false, beq_self_eq_true, Option.map_some, Option.map_none, reduceIte, decide_true, decide_false, Int.reduceLT, Int.reduceLE, Int.reduceMul, Int.reduceAdd, Int.reduceSub, h0, e2, e3])
      exact ⟨rfl, by simp [hl], (by first | ((simp (disch := (first | (simp only [List.length_set, hl]; omega) | omega | rfl)) only [sL, h0]); done) | rfl | trivial | ((simp (disch := (first | (simp only [List.length_set, hl]; omega) | omega | rfl)) only [sL, h0]); rfl)), (by first | ((simp (disch := (first | (simp only [List.length_set, hl]; omega) | omega | rfl)) only [sL, e2]); done) | rfl | trivial | ((simp (disch := (first | (simp only [List.length_set, hl]; omega) | omega | rfl)) only [sL, e2]); rfl)), (by first | ((simp (disch := (first | (simp only [List.length_set, hl]; omega) | omega | rfl)) only [sL, e3]); done) | rfl | trivial | ((simp (disch := (first | (simp only [List.length_set, hl]; omega) | omega | rfl)) only [sL, e3]); rfl)), c1⟩
  have m0 : (pIf bs 0 (pNum bs 4 0 4294967295) x).cs.length = 14 := by rw [pIf_len (fun _ => pNum_len)]; exact hlen
  have m1 : One (pIf bs 0 (pNum bs 4 0 4294967295) x).cs := pIf_one (fun _ => pNum_one) hone
  have m10 : ∀ i, i = 10 ∨ i = 11 ∨ i = 12 ∨ i = 13 → (pIf bs 0 (pNum bs 4 0 4294967295) x).cs[i]? = some (.int .u32 0) := fun i hi => by rw [pIf_get (fun _ => pNum_get (by omega)) (by omega)]; exact z10 i hi
  generalize pIf bs 0 (pNum bs 4 0 4294967295) x = y at m0 m1 m10 ⊢
  clear h0 e2 e3 hl c c1 hlen hone z10 ha p1 ld hd
  clear env x
  intro ax env h q
  obtain ⟨hax, hl, h0, e2, e3, c⟩ := q
  rw [hax]
  have hlen := m0
  have hone := m1
  have z10 := m10
  clear m0 m1 m10 hax
  revert y
  intro x c hlen hone z10
  have lr := XR.lr c
  repeat (first | (with_reducible refine Wp.st ?_; simp only [wS]) | with_reducible refine Wp.drawS (by decide +kernel) ?_ | simp (disch := (first | (simp only [List.length_set, hl]; omega) | omega | rfl)) only [walkA, walkB, bne_self_eq_false, beq_self_eq_true, Option.map_some, Option.map_none, reduceIte, decide_true, decide_false, Int.reduceLT, Int.reduceLE, Int.reduceMul, Int.reduceAdd, Int.reduceSub, h0, e2, e3, faN0, lr])
  refine (xBool_am kr _ bv bs _ _ (XR.rd c)).mono ?_
  intro v ha q
  rw [q.1]
  obtain ⟨hd, p1, c1, ld⟩ := XRS.bool (o := 1) c (by omega) q.2.1 q.2.2
  clear q lr
  repeat (first | (with_reducible refine Wp.st ?_; simp only [wS]) | with_reducible refine Wp.drawS (by decide +kernel) ?_ | simp (disch := (first | (simp only [List.length_set, hl]; omega) | omega | rfl)) only [walkA, walkB, bne_self_eq_false, beq_self_eq_true, Option.map_some, Option.map_none, reduceIte, decide_true, decide_false, Int.reduceLT, Int.reduceLE, Int.reduceMul, Int.reduceAdd, Int.reduceSub, h0, e2, e3, faS1, p1, ld])
  refine Wp.mono (Q := SX 71 ki k2 ks fun h' => XRS Z H0 h' ki kr bv bs (pIf bs 1 (pU32 bs 5) x) ks TS ((k2, sattrZ, TS) :: L)) ?_ ?_
  · cases hb : (rBool bs x.s).1 with
    | true =>
      have e1 : pIf bs 1 (pU32 bs 5) x = pU32 bs 5 (pBool bs 1 x) := by unfold pIf; rw [if_pos hb]
      rw [e1]
      refine Wp.cond_true (by first | ((simp (disch := (first | (simp only [List.length_set, hl]; omega) | omega | rfl)) only [sL, aEval_tmp, hb]); done) | ((simp (disch := (first | (simp only [List.length_set, hl]; omega) | omega | rfl)) only [sL, aEval_tmp, hb]); rfl)) ?_
      repeat (first | (with_reducible refine Wp.st ?_; simp only [wS]) | with_reducible refine Wp.drawS (by decide +kernel) ?_ | simp (disch := (first | (simp only [List.length_set, hl]; omega) | omega | rfl)) only [walkA, walkB, bne_self_eq_false, beq_self_eq_true, Option.map_some, Option.map_none, reduceIte, decide_true, decide_false, Int.reduceLT, Int.reduceLE, Int.reduceMul, Int.reduceAdd, Int.reduceSub, h0, e2, e3])
      refine (inU32_am c1).mono ?_
      intro v hc q
      rw [q.1]
      obtain ⟨hg, p2, c2⟩ := XRS.u32 (o := 5) (x := pBool bs 1 x) (by rw [pBool_len]; omega) q.2
      repeat (first | (with_reducible refine Wp.st ?_; simp only [wS]) | with_reducible refine Wp.drawS (by decide +kernel) ?_ | simp (disch := (first | (simp only [List.length_set, hl]; omega) | omega | rfl)) only [walkA, walkB, bne_self_eq_false, beq_self_eq_true, Option.map_some, Option.map_none, reduceIte, decide_true, decide_false, Int.reduceLT, Int.reduceLE, Int.reduceMul, Int.reduceAdd, Int.reduceSub, h0, e2, e3, faS5, p2])
      exact ⟨rfl, by simp [hl], (by first | ((simp (disch := (first | (simp only [List.length_set, hl]; omega) | omega | rfl)) only [sL, h0]); done) | rfl | trivial | ((simp (disch := (first | (simp only [List.length_set, hl]; omega) | omega | rfl)) only [sL, h0]); rfl)), (by first | ((simp (disch := (first | (simp only [List.length_set, hl]; omega) | omega | rfl)) only [sL, e2]); done) | rfl | trivial | ((simp (disch := (first | (simp only [List.length_set, hl]; omega) | omega | rfl)) only [sL, e2]); rfl)), (by first | ((simp (disch := (first | (simp only [List.length_set, hl]; omega) | omega | rfl)) only [sL, e3]); done) | rfl | trivial | ((simp (disch := (first | (simp only [List.length_set, hl]; omega) | omega | rfl)) only [sL, e3]); rfl)), c2⟩
    | false =>
      have e1 : pIf bs 1 (pU32 bs 5) x = pBool bs 1 x := by unfold pIf; rw [if_neg (by simp [hb])]
      rw [e1]
      refine Wp.cond_false (by first | ((simp (disch := (first | (simp only [List.length_set, hl]; omega) | omega | rfl)) only [sL, aEval_tmp, hb]); done) | ((simp (disch := (first | (simp only [List.length_set, hl]; omega) | omega | rfl)) only [sL, aEval_tmp, hb]); rfl)) ?_
      repeat (first | (with_reducible refine Wp.st ?_; simp only [wS]) | with_reducible refine Wp.drawS (by decide +kernel) ?_ | simp (disch := (first | (simp only [List.length_set, hl]; omega) | omega | rfl)) only [walkA, walkB, bne_self_eq_false, beq_self_eq_true, Option.map_some, Option.map_none, reduceIte, decide_true, decide_false, Int.reduceLT, Int.reduceLE, Int.reduceMul, Int.reduceAdd, Int.reduceSub, h0, e2, e3])
      exact ⟨rfl, by simp [hl], (by first | ((simp (disch := (first | (simp only [List.length_set, hl]; omega) | omega | rfl)) only [sL, h0]); done) | rfl | trivial | ((simp (disch := (first | (simp only [List.length_set, hl]; omega) | omega | rfl)) only [sL, h0]); rfl)), (by first | ((simp (disch := (first | (simp only [List.length_set, hl]; omega) | omega | rfl)) only [sL, e2]); done) | rfl | trivial | ((simp (disch := (first | (simp only [List.length_set, hl]; omega) | omega | rfl)) only [sL, e2]); rfl)), (by first | ((simp (disch := (first | (simp only [List.length_set, hl]; omega) | omega | rfl)) only [sL, e3]); done) | rfl | trivial | ((simp (disch := (first | (simp only [List.length_set, hl]; omega) | omega | rfl)) only [sL, e3]); rfl)), c1⟩
  have m0 : (pIf bs 1 (pU32 bs 5) x).cs.length = 14 := by rw [pIf_len (fun _ => pU32_len)]; exact hlen
  have m1 : One (pIf bs 1 (pU32 bs 5) x).cs := pIf_one (fun _ => pU32_one) hone
  have m10 : ∀ i, i = 10 ∨ i = 11 ∨ i = 12 ∨ i = 13 → (pIf bs 1 (pU32 bs 5) x).cs[i]? = some (.int .u32 0) := fun i hi => by rw [pIf_get (fun _ => pU32_get (by omega)) (by omega)]; exact z10 i hi
  generalize pIf bs 1 (pU32 bs 5) x = y at m0 m1 m10 ⊢
  clear h0 e2 e3 hl c c1 hlen hone z10 ha p1 ld hd
  clear env x
  intro ax env h q
  obtain ⟨hax, hl, h0, e2, e3, c⟩ := q
  rw [hax]
  have hlen := m0
  have hone := m1
  have z10 := m10
  clear m0 m1 m10 hax
  revert y
  intro x c hlen hone z10
  have lr := XR.lr c
  repeat (first | (with_reducible refine Wp.st ?_; simp only [wS]) | with_reducible refine Wp.drawS (by decide +kernel) ?_ | simp (disch := (first | (simp only [List.length_set, hl]; omega) | omega | rfl)) only [walkA, walkB, bne_self_eq_false, beq_self_eq_true, Option.map_some, Option.map_none, reduceIte, decide_true, decide_false, Int.reduceLT, Int.reduceLE, Int.reduceMul, Int.reduceAdd, Int.reduceSub, h0, e2, e3, faN0, lr])
  refine (xBool_am kr _ bv bs _ _ (XR.rd c)).mono ?_
  intro v ha q
  rw [q.1]
  obtain ⟨hd, p1, c1, ld⟩ := XRS.bool (o := 2) c (by omega) q.2.1 q.2.2
  clear q lr
  repeat (first | (with_reducible refine Wp.st ?_; simp only [wS]) | with_reducible refine Wp.drawS (by decide +kernel) ?_ | simp (disch := (first | (simp only [List.length_set, hl]; omega) | omega | rfl)) only [walkA, walkB, bne_self_eq_false, beq_self_eq_true, Option.map_some, Option.map_none, reduceIte, decide_true, decide_false, Int.reduceLT, Int.reduceLE, Int.reduceMul, Int.reduceAdd, Int.reduceSub, h0, e2, e3, faS2, p1, ld])
  refine Wp.mono (Q := SX 71 ki k2 ks fun h' => XRS Z H0 h' ki kr bv bs (pIf bs 2 (pU32 bs 6) x) ks TS ((k2, sattrZ, TS) :: L)) ?_ ?_
  · cases hb : (rBool bs x.s).1 with
    | true =>
      have e1 : pIf bs 2 (pU32 bs 6) x = pU32 bs 6 (pBool bs 2 x) := by unfold pIf; rw [if_pos hb]
      rw [e1]
      refine Wp.cond_true (by first | ((simp (disch := (first | (simp only [List.length_set, hl]; omega) | omega | rfl)) only [sL, aEval_tmp, hb]); done) | ((simp (disch := (first | (simp only [List.length_set, hl]; omega) | omega | rfl)) only [sL, aEval_tmp, hb]); rfl)) ?_
      repeat (first | (with_reducible refine Wp.st ?_; simp only [wS]) | with_reducible refine Wp.drawS (by decide +kernel) ?_ | simp (disch := (first | (simp only [List.length_set, hl]; omega) | omega | rfl)) only [walkA, walkB, bne_self_eq_false, beq_self_eq_true, Option.map_some, Option.map_none, reduceIte, decide_true, decide_false, Int.reduceLT, Int.reduceLE, Int.reduceMul, Int.reduceAdd, Int.reduceSub, h0, e2, e3])
      refine (inU32_am c1).mono ?_
      intro v hc q
      rw [q.1]
      obtain ⟨hg, p2, c2⟩ := XRS.u32 (o := 6) (x := pBool bs 2 x) (by rw [pBool_len]; omega) q.2
      repeat (first | (with_reducible refine Wp.st ?_; simp only [wS]) | with_reducible refine Wp.drawS (by decide +kernel) ?_ | simp (disch := (first | (simp only [List.length_set, hl]; omega) | omega | rfl)) only [walkA, walkB, bne_self_eq_false, beq_self_eq_true, Option.map_some, Option.map_none, reduceIte, decide_true, decide_false, Int.reduceLT, Int.reduceLE, Int.reduceMul, Int.reduceAdd, Int.reduceSub, h0, e2, e3, faS6, p2])
      exact ⟨rfl, by simp [hl], (by first | ((simp (disch := (first | (simp only [List.length_set, hl]; omega) | omega | rfl)) only [sL, h0]); done) | rfl | trivial | ((simp (disch := (first | (simp only [List.length_set, hl]; omega) | omega | rfl)) only [sL, h0]); rfl)), (by first | ((simp (disch := (first | (simp only [List.length_set, hl]; omega) | omega | rfl)) only [sL, e2]); done) | rfl | trivial | ((simp (disch := (first | (simp only [List.length_set, hl]; omega) | omega | rfl)) only [sL, e2]); rfl)), (by first | ((simp (disch := (first | (simp only [List.length_set, hl]; omega) | omega | rfl)) only [sL, e3]); done) | rfl | trivial | ((simp (disch := (first | (simp only [List.length_set, hl]; omega) | omega | rfl)) only [sL, e3]); rfl)), c2⟩
    | false =>
      have e1 : pIf bs 2 (pU32 bs 6) x = pBool bs 2 x := by unfold pIf; rw [if_neg (by simp [hb])]
      rw [e1]
      refine Wp.cond_false (by first | ((simp (disch := (first | (simp only [List.length_set, hl]; omega) | omega | rfl)) only [sL, aEval_tmp, hb]); done) | ((simp (disch := (first | (simp only [List.length_set, hl]; omega) | omega | rfl)) only [sL, aEval_tmp, hb]); rfl)) ?_
      repeat (first | (with_reducible refine Wp.st ?_; simp only [wS]) | with_reducible refine Wp.drawS (by decide +kernel) ?_ | simp (disch := (first | (simp only [List.length_set, hl]; omega) | omega | rfl)) only [walkA, walkB, bne_self_eq_false, beq_self_eq_true, Option.map_some, Option.map_none, reduceIte, decide_true, decide_false, Int.reduceLT, Int.reduceLE, Int.reduceMul, Int.reduceAdd, Int.reduceSub, h0, e2, e3])
      exact ⟨rfl, by simp [hl], (by first | ((simp (disch := (first | (simp only [List.length_set, hl]; omega) | omega | rfl)) only [sL, h0]); done) | rfl | trivial | ((simp (disch := (first | (simp only [List.length_set, hl]; omega) | omega | rfl)) only [sL, h0]); rfl)), (by first | ((simp (disch := (first | (simp only [List.length_set, hl]; omega) | omega | rfl)) only [sL, e2]); done) | rfl | trivial | ((simp (disch := (first | (simp only [List.length_set, hl]; omega) | omega | rfl)) only [sL, e2]); rfl)), (by first | ((simp (disch := (first | (simp only [List.length_set, hl]; omega) | omega | rfl)) only [sL, e3]); done) | rfl | trivial | ((simp (disch := (first | (simp only [List.length_set, hl]; omega) | omega | rfl)) only [sL, e3]); rfl)), c1⟩
  have m0 : (pIf bs 2 (pU32 bs 6) x).cs.length = 14 := by rw [pIf_len (fun _ => pU32_len)]; exact hlen
  have m1 : One (pIf bs 2 (pU32 bs 6) x).cs := pIf_one (fun _ => pU32_one) hone
  have m10 : ∀ i, i = 10 ∨ i = 11 ∨ i = 12 ∨ i = 13 → (pIf bs 2 (pU32 bs 6) x).cs[i]? = some (.int .u32 0) := fun i hi => by rw [pIf_get (fun _ => pU32_get (by omega)) (by omega)]; exact z10 i hi
  generalize pIf bs 2 (pU32 bs 6) x = y at m0 m1 m10 ⊢
  clear h0 e2 e3 hl c c1 hlen hone z10 ha p1 ld hd
  clear env x
  intro ax env h q
  obtain ⟨hax, hl, h0, e2, e3, c⟩ := q
  rw [hax]
  have hlen := m0
  have hone := m1
  have z10 := m10
  clear m0 m1 m10 hax
  revert y
  intro x c hlen hone z10
  have lr := XR.lr c
  repeat (first | (with_reducible refine Wp.st ?_; simp only [wS]) | with_reducible refine Wp.drawS (by decide +kernel) ?_ | simp (disch := (first | (simp only [List.length_set, hl]; omega) | omega | rfl)) only [walkA, walkB, bne_self_eq_false, beq_self_eq_true, Option.map_some, Option.map_none, reduceIte, decide_true, decide_false, Int.reduceLT, Int.reduceLE, Int.reduceMul, Int.reduceAdd, Int.reduceSub, h0, e2, e3, faN0, lr])
  refine (xBool_am kr _ bv bs _ _ (XR.rd c)).mono ?_
  intro v ha q
  rw [q.1]
  obtain ⟨hd, p1, c1, ld⟩ := XRS.bool (o := 3) c (by omega) q.2.1 q.2.2
  clear q lr
  repeat (first | (with_reducible refine Wp.st ?_; simp only [wS]) | with_reducible refine Wp.drawS (by decide +kernel) ?_ | simp (disch := (first | (simp only [List.length_set, hl]; omega) | omega | rfl)) only [walkA, walkB, bne_self_eq_false, beq_self_eq_true, Option.map_some, Option.map_none, reduceIte, decide_true, decide_false, Int.reduceLT, Int.reduceLE, Int.reduceMul, Int.reduceAdd, Int.reduceSub, h0, e2, e3, faS3, p1, ld])
  refine Wp.mono (Q := SX 71 ki k2 ks fun h' => XRS Z H0 h' ki kr bv bs (pIf bs 3 (pU64 bs 7) x) ks TS ((k2, sattrZ, TS) :: L)) ?_ ?_
  · cases hb : (rBool bs x.s).1 with
    | true =>
      have e1 : pIf bs 3 (pU64 bs 7) x = pU64 bs 7 (pBool bs 3 x) := by unfold pIf; rw [if_pos hb]
      rw [e1]
      refine Wp.cond_true (by first | ((simp (disch := (first | (simp only [List.length_set, hl]; omega) | omega | rfl)) only [sL, aEval_tmp, hb]); done) | ((simp (disch := (first | (simp only [List.length_set, hl]; omega) | omega | rfl)) only [sL, aEval_tmp, hb]); rfl)) ?_
      have lr := XR.lr c1
      repeat (first | (with_reducible refine Wp.st ?_; simp only [wS]) | with_reducible refine Wp.drawS (by decide +kernel) ?_ | simp (disch := (first | (simp only [List.length_set, hl]; omega) | omega | rfl)) only [walkA, walkB, bne_self_eq_false, beq_self_eq_true, Option.map_some, Option.map_none, reduceIte, decide_true, decide_false, Int.reduceLT, Int.reduceLE, Int.reduceMul, Int.reduceAdd, Int.reduceSub, h0, e2, e3, faN0, lr])
      refine (xU64_am kr _ bv bs _ _ (XR.rd c1)).mono ?_
      intro v hc q
      rw [q.1]
      obtain ⟨hg, p2, c2⟩ := XRS.u64 (o := 7) c1 (by rw [pBool_len]; omega) q.2.1 q.2.2
      repeat (first | (with_reducible refine Wp.st ?_; simp only [wS]) | with_reducible refine Wp.drawS (by decide +kernel) ?_ | simp (disch := (first | (simp only [List.length_set, hl]; omega) | omega | rfl)) only [walkA, walkB, bne_self_eq_false, beq_self_eq_true, Option.map_some, Option.map_none, reduceIte, decide_true, decide_false, Int.reduceLT, Int.reduceLE, Int.reduceMul, Int.reduceAdd, Int.reduceSub, h0, e2, e3, faS7, p2])
      exact ⟨rfl, by simp [hl], (by first | ((simp (disch := (first | (simp only [List.length_set, hl]; omega) | omega | rfl)) only [sL, h0]); done) | rfl | trivial | ((simp (disch := (first | (simp only [List.length_set, hl]; omega) | omega | rfl)) only [sL, h0]); rfl)), (by first | ((simp (disch := (first | (simp only [List.length_set, hl]; omega) | omega | rfl)) only [sL, e2]); done) | rfl | trivial | ((simp (disch := (first | (simp only [List.length_set, hl]; omega) | omega | rfl)) only [sL, e2]); rfl)), (by first | ((simp (disch := (first | (simp only [List.length_set, hl]; omega) | omega | rfl)) only [sL, e3]); done) | rfl | trivial | ((simp (disch := (first | (simp only [List.length_set, hl]; omega) | omega | rfl)) only [sL, e3]); rfl)), c2⟩
    | false =>
      have e1 : pIf bs 3 (pU64 bs 7) x = pBool bs 3 x := by unfold pIf; rw [if_neg (by simp [hb])]
      rw [e1]
      refine Wp.cond_false (by first | ((simp (disch := (first | (simp only [List.length_set, hl]; omega) | omega | rfl)) only [sL, aEval_tmp, hb]); done) | ((simp (disch := (first | (simp only [List.length_set, hl]; omega) | omega | rfl)) only [sL, aEval_tmp, hb]); rfl)) ?_
      repeat (first | (with_reducible refine Wp.st ?_; simp only [wS]) | with_reducible refine Wp.drawS (by decide +kernel) ?_ | simp (disch := (first | (simp only [List.length_set, hl]; omega) | omega | rfl)) only [walkA, walkB, bne_self_eq_false, beq_self_eq_true, Option.map_some, Option.map_none, reduceIte, decide_true, decide_false, Int.reduceLT, Int.reduceLE, Int.reduceMul, Int.reduceAdd, Int.reduceSub, h0, e2, e3])
      exact ⟨rfl, by simp [hl], (by first | ((simp (disch := (first | (simp only [List.length_set, hl]; omega) | omega | rfl)) only [sL, h0]); done) | rfl | trivial | ((simp (disch := (first | (simp only [List.length_set, hl]; omega) | omega | rfl)) only [sL, h0]); rfl)), (by first | ((simp (disch := (first | (simp only [List.length_set, hl]; omega) | omega | rfl)) only [sL, e2]); done) | rfl | trivial | ((simp (disch := (first | (simp only [List.length_set, hl]; omega) | omega | rfl)) only [sL, e2]); rfl)), (by first | ((simp (disch := (first | (simp only [List.length_set, hl]; omega) | omega | rfl)) only [sL, e3]); done) | rfl | trivial | ((simp (disch := (first | (simp only [List.length_set, hl]; omega) | omega | rfl)) only [sL, e3]); rfl)), c1⟩
  have m0 : (pIf bs 3 (pU64 bs 7) x).cs.length = 14 := by rw [pIf_len (fun _ => pU64_len)]; exact hlen
  have m1 : One (pIf bs 3 (pU64 bs 7) x).cs := pIf_one (fun _ => pU64_one) hone
  have m10 : ∀ i, i = 10 ∨ i = 11 ∨ i = 12 ∨ i = 13 → (pIf bs 3 (pU64 bs 7) x).cs[i]? = some (.int .u32 0) := fun i hi => by rw [pIf_get (fun _ => pU64_get (by omega)) (by omega)]; exact z10 i hi
  generalize pIf bs 3 (pU64 bs 7) x = y at m0 m1 m10 ⊢
  clear h0 e2 e3 hl c c1 hlen hone z10 ha p1 ld hd
  clear env x
  intro ax env h q
  obtain ⟨hax, hl, h0, e2, e3, c⟩ := q
  rw [hax]
  have hlen := m0
  have hone := m1
  have z10 := m10
  clear m0 m1 m10 hax
  revert y
  intro x c hlen hone z10
  repeat (first | (with_reducible refine Wp.st ?_; simp only [wS]) | with_reducible refine Wp.drawS (by decide +kernel) ?_ | simp (disch := (first | (simp only [List.length_set, hl]; omega) | omega | rfl)) only [walkA, walkB, bne_self_eq_false, beq_self_eq_true, Option.map_some, Option.map_none, reduceIte, decide_true, decide_false, Int.reduceLT, Int.reduceLE, Int.reduceMul, Int.reduceAdd, Int.reduceSub, h0, e2, e3])
  refine (inUpto_am 0 2 c).mono ?_
  intro v ha q
  rw [q.1]
  obtain ⟨hd, p1, c1, ld⟩ := XRS.num (o := 8) (x := x) (by omega) q.2
  clear q
  repeat (first | (with_reducible refine Wp.st ?_; simp only [wS]) | with_reducible refine Wp.drawS (by decide +kernel) ?_ | simp (disch := (first | (simp only [List.length_set, hl]; omega) | omega | rfl)) only [walkA, walkB, bne_self_eq_false, beq_self_eq_true, Option.map_some, Option.map_none, reduceIte, decide_true, decide_false, Int.reduceLT, Int.reduceLE, Int.reduceMul, Int.reduceAdd, Int.reduceSub, h0, e2, e3, faS8, p1, ld])
  refine Wp.mono (Q := SX 71 ki k2 ks fun h' => XRS Z H0 h' ki kr bv bs (pHow bs 8 10 x) ks TS ((k2, sattrZ, TS) :: L)) ?_ ?_
  · by_cases h2' : (rNum bs 4 x.s).1 = 2
    · have d : ((rNum bs 4 x.s).1 == 2) = true := by simpa using h2'
      have e1 : pHow bs 8 10 x = pTime bs 10 (pNum bs 8 0 2 x) := by unfold pHow; rw [if_pos h2']
      rw [e1]
      refine Wp.cond_true (by first | ((simp (disch := (first | (simp only [List.length_set, hl]; omega) | omega | rfl)) only [sL, aEval_tmp, d]); done) | ((simp (disch := (first | (simp only [List.length_set, hl]; omega) | omega | rfl)) only [sL, aEval_tmp, d]); rfl)) ?_
      repeat (first | (with_reducible refine Wp.st ?_; simp only [wS]) | with_reducible refine Wp.drawS (by decide +kernel) ?_ | simp (disch := (first | (simp only [List.length_set, hl]; omega) | omega | rfl)) only [walkA, walkB, bne_self_eq_false, beq_self_eq_true, Option.map_some, Option.map_none, reduceIte, decide_true, decide_false, Int.reduceLT, Int.reduceLE, Int.reduceMul, Int.reduceAdd, Int.reduceSub, h0, e2, e3])
      refine (inTime_am c1).mono ?_
      intro v hc q
      rw [q.1]
      obtain ⟨hg, p2, c2⟩ := XRS.time (o := 10) (x := pNum bs 8 0 2 x) (by rw [pNum_len]; omega) q.2
      repeat (first | (with_reducible refine Wp.st ?_; simp only [wS]) | with_reducible refine Wp.drawS (by decide +kernel) ?_ | simp (disch := (first | (simp only [List.length_set, hl]; omega) | omega | rfl)) only [walkA, walkB, bne_self_eq_false, beq_self_eq_true, Option.map_some, Option.map_none, reduceIte, decide_true, decide_false, Int.reduceLT, Int.reduceLE, Int.reduceMul, Int.reduceAdd, Int.reduceSub, h0, e2, e3, faS10, p2])
      exact ⟨rfl, by simp [hl], (by first | ((simp (disch := (first | (simp only [List.length_set, hl]; omega) | omega | rfl)) only [sL, h0]); done) | rfl | trivial | ((simp (disch := (first | (simp only [List.length_set, hl]; omega) | omega | rfl)) only [sL, h0]); rfl)), (by first | ((simp (disch := (first | (simp only [List.length_set, hl]; omega) | omega | rfl)) only [sL, e2]); done) | rfl | trivial | ((simp (disch := (first | (simp only [List.length_set, hl]; omega) | omega | rfl)) only [sL, e2]); rfl)), (by first | ((simp (disch := (first | (simp only [List.length_set, hl]; omega) | omega | rfl)) only [sL, e3]); done) | rfl | trivial | ((simp (disch := (first | (simp only [List.length_set, hl]; omega) | omega | rfl)) only [sL, e3]); rfl)), c2⟩
    · have d : ((rNum bs 4 x.s).1 == 2) = false := by simpa using h2'
      have e1 : pHow bs 8 10 x = pNum bs 8 0 2 x := by unfold pHow; rw [if_neg h2']; exact noTime_id (by rw [pNum_get (by omega)]; exact z10 _ (by omega)) (by rw [pNum_get (by omega)]; exact z10 _ (by omega))
      rw [e1]
      refine Wp.cond_false (by first | ((simp (disch := (first | (simp only [List.length_set, hl]; omega) | omega | rfl)) only [sL, aEval_tmp, d]); done) | ((simp (disch := (first | (simp only [List.length_set, hl]; omega) | omega | rfl)) only [sL, aEval_tmp, d]); rfl)) ?_
      repeat (first | (with_reducible refine Wp.st ?_; simp only [wS]) | with_reducible refine Wp.drawS (by decide +kernel) ?_ | simp (disch := (first | (simp only [List.length_set, hl]; omega) | omega | rfl)) only [walkA, walkB, bne_self_eq_false, beq_self_eq_true, Option.map_some, Option.map_none, reduceIte, decide_true, decide_false, Int.reduceLT, Int.reduceLE, Int.reduceMul, Int.reduceAdd, Int.reduceSub, h0, e2, e3])
      exact ⟨rfl, by simp [hl], (by first | ((simp (disch := (first | (simp only [List.length_set, hl]; omega) | omega | rfl)) only [sL, h0]); done) | rfl | trivial | ((simp (disch := (first | (simp only [List.length_set, hl]; omega) | omega | rfl)) only [sL, h0]); rfl)), (by first | ((simp (disch := (first | (simp only [List.length_set, hl]; omega) | omega | rfl)) only [sL, e2]); done) | rfl | trivial | ((simp (disch := (first | (simp only [List.length_set, hl]; omega) | omega | rfl)) only [sL, e2]); rfl)), (by first | ((simp (disch := (first | (simp only [List.length_set, hl]; omega) | omega | rfl)) only [sL, e3]); done) | rfl | trivial | ((simp (disch := (first | (simp only [List.length_set, hl]; omega) | omega | rfl)) only [sL, e3]); rfl)), c1⟩
  have m0 : (pHow bs 8 10 x).cs.length = 14 := by rw [pHow_len]; exact hlen
  have m1 : One (pHow bs 8 10 x).cs := pHow_one hone
  have m10 : ∀ i, i = 12 ∨ i = 13 → (pHow bs 8 10 x).cs[i]? = some (.int .u32 0) := fun i hi => by rw [pHow_get (by omega) (by omega) (by omega)]; exact z10 i (by omega)
  generalize pHow bs 8 10 x = y at m0 m1 m10 ⊢
  clear h0 e2 e3 hl c c1 hlen hone z10 ha p1 ld hd
  clear env x
  intro ax env h q
  obtain ⟨hax, hl, h0, e2, e3, c⟩ := q
  rw [hax]
  have hlen := m0
  have hone := m1
  have z10 := m10
  clear m0 m1 m10 hax
  revert y
  intro x c hlen hone z10
  repeat (first | (with_reducible refine Wp.st ?_; simp only [wS]) | with_reducible refine Wp.drawS (by decide +kernel) ?_ | simp (disch := (first | (simp only [List.length_set, hl]; omega) | omega | rfl)) only [walkA, walkB, bne_self_eq_false, beq_self_eq_true, Option.map_some, Option.map_none, reduceIte, decide_true, decide_false, Int.reduceLT, Int.reduceLE, Int.reduceMul, Int.reduceAdd, Int.reduceSub, h0, e2, e3])
  refine (inUpto_am 0 2 c).mono ?_
  intro v ha q
  rw [q.1]
  obtain ⟨hd, p1, c1, ld⟩ := XRS.num (o := 9) (x := x) (by omega) q.2
  clear q
  repeat (first | (with_reducible refine Wp.st ?_; simp only [wS]) | with_reducible refine Wp.drawS (by decide +kernel) ?_ | simp (disch := (first | (simp only [List.length_set, hl]; omega) | omega | rfl)) only [walkA, walkB, bne_self_eq_false, beq_self_eq_true, Option.map_some, Option.map_none, reduceIte, decide_true, decide_false, Int.reduceLT, Int.reduceLE, Int.reduceMul, Int.reduceAdd, Int.reduceSub, h0, e2, e3, faS9, p1, ld])
  refine Wp.mono (Q := SX 71 ki k2 ks fun h' => XRS Z H0 h' ki kr bv bs (pHow bs 9 12 x) ks TS ((k2, sattrZ, TS) :: L)) ?_ ?_
  · by_cases h2' : (rNum bs 4 x.s).1 = 2
    · have d : ((rNum bs 4 x.s).1 == 2) = true := by simpa using h2'
      have e1 : pHow bs 9 12 x = pTime bs 12 (pNum bs 9 0 2 x) := by unfold pHow; rw [if_pos h2']
      rw [e1]
      refine Wp.cond_true (by first | ((simp (disch := (first | (simp only [List.length_set, hl]; omega) | omega | rfl)) only [sL, aEval_tmp, d]); done) | ((simp (disch := (first | (simp only [List.length_set, hl]; omega) | omega | rfl)) only [sL, aEval_tmp, d]); rfl)) ?_
      repeat (first | (with_reducible refine Wp.st ?_; simp only [wS]) | with_reducible refine Wp.drawS (by decide +kernel) ?_ | simp (disch := (first | (simp only [List.length_set, hl]; omega) | omega | rfl)) only [walkA, walkB, bne_self_eq_false, beq_self_eq_true, Option.map_some, Option.map_none, reduceIte, decide_true, decide_false, Int.reduceLT, Int.reduceLE, Int.reduceMul, Int.reduceAdd, Int.reduceSub, h0, e2, e3])
      refine (inTime_am c1).mono ?_
      intro v hc q
      rw [q.1]
      obtain ⟨hg, p2, c2⟩ := XRS.time (o := 12) (x := pNum bs 9 0 2 x) (by rw [pNum_len]; omega) q.2
      repeat (first | (with_reducible refine Wp.st ?_; simp only [wS]) | with_reducible refine Wp.drawS (by decide +kernel) ?_ | simp (disch := (first | (simp only [List.length_set, hl]; omega) | omega | rfl)) only [walkA, walkB, bne_self_eq_false, beq_self_eq_true, Option.map_some, Option.map_none, reduceIte, decide_true, decide_false, Int.reduceLT, Int.reduceLE, Int.reduceMul, Int.reduceAdd, Int.reduceSub, h0, e2, e3, faS11, p2])
      exact ⟨rfl, by simp [hl], (by first | ((simp (disch := (first | (simp only [List.length_set, hl]; omega) | omega | rfl)) only [sL, h0]); done) | rfl | trivial | ((simp (disch := (first | (simp only [List.length_set, hl]; omega) | omega | rfl)) only [sL, h0]); rfl)), (by first | ((simp (disch := (first | (simp only [List.length_set, hl]; omega) | omega | rfl)) only [sL, e2]); done) | rfl | trivial | ((simp (disch := (first | (simp only [List.length_set, hl]; omega) | omega | rfl)) only [sL, e2]); rfl)), (by first | ((simp (disch := (first | (simp only [List.length_set, hl]; omega) | omega | rfl)) only [sL, e3]); done) | rfl | trivial | ((simp (disch := (first | (simp only [List.length_set, hl]; omega) | omega | rfl)) only [sL, e3]); rfl)), c2⟩
    · have d : ((rNum bs 4 x.s).1 == 2) = false := by simpa using h2'
      have e1 : pHow bs 9 12 x = pNum bs 9 0 2 x := by unfold pHow; rw [if_neg h2']; exact noTime_id (by rw [pNum_get (by omega)]; exact z10 _ (by omega)) (by rw [pNum_get (by omega)]; exact z10 _ (by omega))
      rw [e1]
      refine Wp.cond_false (by first | ((simp (disch := (first | (simp only [List.length_set, hl]; omega) | omega | rfl)) only [sL, aEval_tmp, d]); done) | ((simp (disch := (first | (simp only [List.length_set, hl]; omega) | omega | rfl)) only [sL, aEval_tmp, d]); rfl)) ?_
      repeat (first | (with_reducible refine Wp.st ?_; simp only [wS]) | with_reducible refine Wp.drawS (by decide +kernel) ?_ | simp (disch := (first | (simp only [List.length_set, hl]; omega) | omega | rfl)) only [walkA, walkB, bne_self_eq_false, beq_self_eq_true, Option.map_some, Option.map_none, reduceIte, decide_true, decide_false, Int.reduceLT, Int.reduceLE, Int.reduceMul, Int.reduceAdd, Int.reduceSub, h0, e2, e3])
      exact ⟨rfl, by simp [hl], (by first | ((simp (disch := (first | (simp only [List.length_set, hl]; omega) | omega | rfl)) only [sL, h0]); done) | rfl | trivial | ((simp (disch := (first | (simp only [List.length_set, hl]; omega) | omega | rfl)) only [sL, h0]); rfl)), (by first | ((simp (disch := (first | (simp only [List.length_set, hl]; omega) | omega | rfl)) only [sL, e2]); done) | rfl | trivial | ((simp (disch := (first | (simp only [List.length_set, hl]; omega) | omega | rfl)) only [sL, e2]); rfl)), (by first | ((simp (disch := (first | (simp only [List.length_set, hl]; omega) | omega | rfl)) only [sL, e3]); done) | rfl | trivial | ((simp (disch := (first | (simp only [List.length_set, hl]; omega) | omega | rfl)) only [sL, e3]); rfl)), c1⟩
  have m0 : (pHow bs 9 12 x).cs.length = 14 := by rw [pHow_len]; exact hlen
  have m1 : One (pHow bs 9 12 x).cs := pHow_one hone
  generalize pHow bs 9 12 x = y at m0 m1 ⊢
  clear h0 e2 e3 hl c c1 hlen hone z10 ha p1 ld hd
  clear env x
  intro ax env h q
  obtain ⟨hax, hl, h0, e2, e3, c⟩ := q
  rw [hax]
  have hlen := m0
  have hone := m1
  clear m0 m1 hax
  revert y
  intro x c hlen hone
  have st5 := perm4 c.st
  have l6 := st5.swap.ldS Try.underlying28 iSet (by rw [hlen]; rfl) (t := TS)
  have p1 := st5.stS (vs := x.cs) iSet rfl (by rw [hlen]; rfl) hone (t := TS)
  have p2 := p1.1
  have l1 := p1.2.ldS Try.underlying28 iSet (by rw [hlen]; rfl) (t := TS)
  have rx : XR Z H0 _ ki kr bv bs x.s x.bad L := ⟨p1.2.tail.tail, c.row, c.z, c.len, c.pos, c.byte⟩
  repeat (first | (with_reducible refine Wp.st ?_; simp only [wS]) | with_reducible refine Wp.drawS (by decide +kernel) ?_ | simp (disch := (first | (simp only [List.length_set, hl]; omega) | omega | rfl)) only [walkA, walkB, bne_self_eq_false, beq_self_eq_true, Option.map_some, Option.map_none, reduceIte, decide_true, decide_false, Int.reduceLT, Int.reduceLE, Int.reduceMul, Int.reduceAdd, Int.reduceSub, h0, e2, e3, l6, p2])
  rw [aRes_cell1 (v := .agg x.cs.toArray) Try.results27 (by (simp (disch := (first | (simp only [List.length_set, hl]; omega) | omega | rfl)) only [sL, e2]); exact l1)]
  exact ⟨rfl, rx⟩
end
end Go.Proofs.Ytanknjpcgceccaa

namespace Go.Proofs.Ytanknjpcgceccaa
open Go Go.AM
set_option linter.unusedSimpArgs false
set_option maxRecDepth 100000
def liftR (cs : List Value) (o : Nat) (y : RS) : RS := ⟨y.s, y.bad, setL cs o y.cs⟩
theorem setL_set {cs vs : List Value} {o i : Nat} {w : Value} (hi : i < vs.length) (hc : o + vs.length ≤ cs.length) : (setL cs o vs).set (o + i) w = setL cs o (vs.set i w) := by
  apply List.ext_getElem?
  intro j
  rw [List.getElem?_set, setL_get, setL_get, setL_length, List.length_set]
  by_cases h : o + i = j
  · subst h
    have e : o + i - o = i := by omega
    rw [if_pos rfl, if_pos (by omega), if_pos (by omega), e, List.getElem?_set_self hi]
  · rw [if_neg h]
    by_cases h2 : o ≤ j ∧ j < o + vs.length ∧ j < cs.length
    · rw [if_pos h2, if_pos h2, List.getElem?_set_ne (by omega)]
    · rw [if_neg h2, if_neg h2]
section
variable {bs : List Int} {cs : List Value} {o i : Nat} {y : RS}
theorem l_u32 (hc : o + 14 ≤ cs.length) (hy : y.cs.length = 14) (hi : i < 14) : pU32 bs (o + i) (liftR cs o y) = liftR cs o (pU32 bs i y) := by
  simp only [pU32, liftR]; rw [setL_set (by omega) (by omega)]
theorem l_u64 (hc : o + 14 ≤ cs.length) (hy : y.cs.length = 14) (hi : i < 14) : pU64 bs (o + i) (liftR cs o y) = liftR cs o (pU64 bs i y) := by
  simp only [pU64, liftR]; rw [setL_set (by omega) (by omega)]
theorem l_bool (hc : o + 14 ≤ cs.length) (hy : y.cs.length = 14) (hi : i < 14) : pBool bs (o + i) (liftR cs o y) = liftR cs o (pBool bs i y) := by
  simp only [pBool, liftR]; rw [setL_set (by omega) (by omega)]
theorem l_num {a b : Int} (hc : o + 14 ≤ cs.length) (hy : y.cs.length = 14) (hi : i < 14) : pNum bs (o + i) a b (liftR cs o y) = liftR cs o (pNum bs i a b y) := by
  simp only [pNum, liftR]; rw [setL_set (by omega) (by omega)]
  rfl
theorem l_time (hc : o + 14 ≤ cs.length) (hy : y.cs.length = 14) (hi : i + 1 < 14) : pTime bs (o + i) (liftR cs o y) = liftR cs o (pTime bs i y) := by
  unfold pTime
  rw [l_u32 hc hy (by omega), Nat.add_assoc, l_u32 hc (by simp [pU32, hy]) (by omega)]
theorem l_notime (hc : o + 14 ≤ cs.length) (hy : y.cs.length = 14) (hi : i + 1 < 14) : pNoTime (o + i) (liftR cs o y) = liftR cs o (pNoTime i y) := by
  simp only [pNoTime, liftR]
  rw [setL_set (by omega) (by omega), Nat.add_assoc, setL_set (by rw [List.length_set]; omega) (by rw [List.length_set]; omega)]
theorem l_how {t : Nat} (hc : o + 14 ≤ cs.length) (hy : y.cs.length = 14) (hi : i < 14) (ht : t + 1 < 14) : pHow bs (o + i) (o + t) (liftR cs o y) = liftR cs o (pHow bs i t y) := by
  unfold pHow
  have e : (liftR cs o y).s = y.s := rfl
  rw [e, l_num hc hy hi, l_time hc (by rw [pNum_len]; exact hy) ht, l_notime hc (by rw [pNum_len]; exact hy) ht]
  split <;> rfl
theorem l_if {f g : RS → RS} (hf : ∀ z : RS, z.cs.length = 14 → f (liftR cs o z) = liftR cs o (g z)) (hc : o + 14 ≤ cs.length) (hy : y.cs.length = 14) (hi : i < 14) : pIf bs (o + i) f (liftR cs o y) = liftR cs o (pIf bs i g y) := by
  unfold pIf
  have e : (liftR cs o y).s = y.s := rfl
  rw [e, l_bool hc hy hi, hf _ (by rw [pBool_len]; exact hy)]
  split <;> rfl
theorem pSet_lift (x : RS) (hc : o + 14 ≤ x.cs.length) (hz : setL x.cs o sattrZ = x.cs) : pSet bs o x = liftR x.cs o (pSet bs 0 ⟨x.s, x.bad, sattrZ⟩) := by
  have hx : x = liftR x.cs o ⟨x.s, x.bad, sattrZ⟩ := by unfold liftR; rw [hz]
  have h0 : (⟨x.s, x.bad, sattrZ⟩ : RS).cs.length = 14 := rfl
  generalize (⟨x.s, x.bad, sattrZ⟩ : RS) = y at hx h0 ⊢
  generalize x.cs = cs at hx hc ⊢
  rw [hx]
  unfold pSet
  simp only [Nat.zero_add]
  have z0 : o = o + 0 := rfl
  have h1 : (pIf bs 0 (pNum bs 4 0 4294967295) y).cs.length = 14 := by rw [pIf_len (fun _ => pNum_len)]; exact h0
  have e1 : pIf bs o (pNum bs (o + 4) 0 4294967295) (liftR cs o y) = liftR cs o (pIf bs 0 (pNum bs 4 0 4294967295) y) := l_if (i := 0) (fun z hz => l_num hc hz (by decide)) hc h0 (by decide)
  rw [e1]
  have h2 : (pIf bs 1 (pU32 bs 5) (pIf bs 0 (pNum bs 4 0 4294967295) y)).cs.length = 14 := by rw [pIf_len (fun _ => pU32_len)]; exact h1
  generalize pIf bs 0 (pNum bs 4 0 4294967295) y = y1 at h1 h2 ⊢
  rw [l_if (g := pU32 bs 5) (fun z hz => l_u32 hc hz (by decide)) hc h1 (by decide)]
  have h3 : (pIf bs 2 (pU32 bs 6) (pIf bs 1 (pU32 bs 5) y1)).cs.length = 14 := by rw [pIf_len (fun _ => pU32_len)]; exact h2
  generalize pIf bs 1 (pU32 bs 5) y1 = y2 at h2 h3 ⊢
  rw [l_if (g := pU32 bs 6) (fun z hz => l_u32 hc hz (by decide)) hc h2 (by decide)]
  have h4 : (pIf bs 3 (pU64 bs 7) (pIf bs 2 (pU32 bs 6) y2)).cs.length = 14 := by rw [pIf_len (fun _ => pU64_len)]; exact h3
  generalize pIf bs 2 (pU32 bs 6) y2 = y3 at h3 h4 ⊢
  rw [l_if (g := pU64 bs 7) (fun z hz => l_u64 hc hz (by decide)) hc h3 (by decide)]
  have h5 : (pHow bs 8 10 (pIf bs 3 (pU64 bs 7) y3)).cs.length = 14 := by rw [pHow_len]; exact h4
  generalize pIf bs 3 (pU64 bs 7) y3 = y4 at h4 h5 ⊢
  rw [l_how hc h4 (by decide) (by decide), l_how hc h5 (by decide) (by decide)]
end
section
variable {P : Program} {Z : Nat → Prop} {H0 h : Heap} {L : List Blk} {k o : Nat} {cs vs : List Value} {T t : TypeId} {i : TypeInfo}
theorem _root_.Go.AM.St.stN (s : St Z H0 h ((k, cs, T) :: L)) (hi : P.info? t = some i) (hs : i.size = vs.length) (ho : o + vs.length ≤ cs.length) (h1 : One vs) :
    aStore P h t (pt k o) (.agg vs.toArray) = some (h.set k (.cells (setL cs o vs) T false)) ∧ St Z H0 (h.set k (.cells (setL cs o vs) T false)) ((k, setL cs o vs, T) :: L) := by
  have e1 : (Value.agg vs.toArray).cells = vs.toArray := rfl
  have e2 : Nat.ble (o + vs.length) cs.length = true := ble_iff.2 (by omega)
  refine ⟨?_, s.upd (Same.set1 _ _ _) (Heap.get_set_eq s.hd)⟩
  have h1' : vs.all Value.oneCell' = true := h1
  simp [aStore, hi, e1, hs, wrN, s.hd, h1', e2]
end
section
variable {Z : Nat → Prop} {H0 h : Heap} {ki kr : Nat} {bv : Value} {bs : List Int} {L : List Blk} {x : RS} {kt o : Nat} {T : TypeId}
theorem XRS.set {h1 : Heap} (ho : o + 14 ≤ x.cs.length) (hz : setL x.cs o sattrZ = x.cs) (c1 : XR Z H0 h1 ki kr bv bs (pSet bs 0 ⟨x.s, x.bad, sattrZ⟩).s (pSet bs 0 ⟨x.s, x.bad, sattrZ⟩).bad ((kt, x.cs, T) :: L)) :
    ∃ h2, aStore Try.prog h1 28 (pt kt o) (.agg (pSet bs 0 ⟨x.s, x.bad, sattrZ⟩).cs.toArray) = some h2 ∧ XRS Z H0 h2 ki kr bv bs (pSet bs o x) kt T L := by
  have hl : (pSet bs 0 ⟨x.s, x.bad, sattrZ⟩).cs.length = 14 := by rw [pSet_len]; rfl
  have hone : One (pSet bs 0 ⟨x.s, x.bad, sattrZ⟩).cs := pSet_one (by unfold One; rfl)
  have e := pSet_lift (bs := bs) x ho hz
  rw [e]
  generalize pSet bs 0 ⟨x.s, x.bad, sattrZ⟩ = y at c1 hl hone ⊢
  have q := c1.st.rot3'.stN (P := Try.prog) iSet (by rw [hl]; rfl) (by rw [hl]; exact ho) hone
  exact ⟨_, q.1, ⟨q.2.rot3, c1.row, c1.z, c1.len, c1.pos, c1.byte⟩⟩
theorem zset {cs : List Value} {o : Nat} (hz : ∀ i, i < 14 → cs[o + i]? = sattrZ[i]?) : setL cs o sattrZ = cs := by
  apply List.ext_getElem?
  intro j
  rw [setL_get]
  split
  · rename_i h
    have hl : sattrZ.length = 14 := rfl
    have := hz (j - o) (by omega)
    rw [← this]
    congr 1; omega
  · rfl
theorem XRS.row {dv : Value} {most : Int} {h1 : Heap} (c : XRS Z H0 h ki kr bv bs x kt T L) (ho : o < x.cs.length) (ob : OutB h h1 dv (rBytes bs most x.s).1) (r : RdOK h1 kr TR bv bs (rBytes bs most x.s).2) (hs : Same h h1 (onlyS kr)) :
    ∃ h2, aStore Try.prog h1 22 (pt kt o) dv = some h2 ∧ XR Z H0 h2 ki kr bv bs (rBytes bs most x.s).2 x.bad ((kt, x.cs.set o dv, T) :: L) ∧ OutB h h2 dv (rBytes bs most x.s).1 ∧ h2 = h1.set kt (.cells (x.cs.set o dv) T false) := by
  have c1 := XR.read c r hs
  have hkl : kt < h.next := Heap.get_lt (XR.st c).rot3'.hd
  obtain ⟨a, n, d, e⟩ := buf_slice ob.1
  have p := c1.put iRow rfl o ho (v := dv) (by rw [e]; rfl) (by rw [e]; rfl)
  refine ⟨_, p.1, p.2, ⟨ob.1.same (Same.set1 h1 kt _) (fun j hj x => ?_), ob.2⟩, rfl⟩
  have e : j = kt := x
  have := ob.2 j hj
  omega
end
end Go.Proofs.Ytanknjpcgceccaa

namespace Go.Proofs.Ytanknjpcgceccaa
open Go Go.AM
set_option linter.unusedSimpArgs false
set_option maxRecDepth 100000
attribute [local irreducible] WOps WV WH WSt WNil WPick WGd
def pMore (bs : List Int) (p : Int) (x : RS) : RS :=
  if p = 8 then (if (rNum bs 4 x.s).1 = 2 then pU64 bs 29 (pNum bs 26 0 2 x) else pSet bs 5 (pNum bs 26 0 2 x))
  else if p = 9 then pSet bs 5 x
  else if p = 10 then pText bs 4 1024 (pSet bs 5 x)
  else if p = 11 then (if (rNum bs 4 x.s).1 = 3 ∨ (rNum bs 4 x.s).1 = 4 then pU32 bs 35 (pU32 bs 34 (pSet bs 5 (pNum bs 27 1 7 x))) else if (rNum bs 4 x.s).1 = 6 ∨ (rNum bs 4 x.s).1 = 7 then pSet bs 5 (pNum bs 27 1 7 x) else pNum bs 27 1 7 x)
  else if p = 14 ∨ p = 15 then pText bs 3 255 (pText bs 1 64 x)
  else if p = 16 then pU32 bs 24 (pU64 bs 31 (pU64 bs 30 x))
  else if p = 17 then pU32 bs 33 (pU32 bs 32 (pU64 bs 31 (pU64 bs 30 x)))
  else x
section
variable {Z : Nat → Prop} {H0 h : Heap} {ki kr : Nat} {bv : Value} {bs : List Int} {x : RS} {kt : Nat} {T : TypeId} {L : List Blk}
set_option maxHeartbeats 1000000 in
theorem more_g0 (p : Int) (hp : p = 0 ∨ p = 1 ∨ p = 3 ∨ p = 5 ∨ p = 12 ∨ p = 13 ∨ p = 18 ∨ p = 19 ∨ p = 20 ∨ p = 100 ∨ p = 102 ∨ p = 104 ∨ p = 105) (c : XRS Z H0 h ki kr bv bs x kt T L) (hn : x.cs.length = 36) :
    Cl Try.prog 34 [pt ki 0, .int .i64 p, pt kt 0] h fun v h' => v = .tuple #[] ∧ XRS Z H0 h' ki kr bv bs (pMore bs p x) kt T L := by
  refine Cl.enter Try.func34 rfl 160 Try.ntmps34 (by simp) ?_
  intro env hl ha
  have h0 : sl env 0 = pt ki 0 := ha 0 (by simp)
  have h1 : sl env 1 = .int .i64 p := ha 1 (by simp)
  have h2 : sl env 2 = pt kt 0 := ha 2 (by simp)
  clear ha
  rcases hp with rfl | rfl | rfl | rfl | rfl | rfl | rfl | rfl | rfl | rfl | rfl | rfl | rfl
  all_goals
    repeat (first | (with_reducible refine Wp.st ?_; simp only [wS]) | with_reducible refine Wp.drawS (by decide +kernel) ?_ | simp (disch := (first | (simp only [List.length_set, hl]; omega) | omega | rfl)) only [walkA, walkB, bne_self_eq_false, beq_self_eq_true, Option.map_some, Option.map_none, reduceIte, decide_true, decide_false, Int.reduceLT, Int.reduceLE, Int.reduceMul, Int.reduceAdd, Int.reduceSub, h0, h1, h2, Int.reduceBEq, Int.reduceBNe, Int.reduceGT, Int.reduceGE] | (refine Wp.cond_true ?_ ?_; focus ((simp (disch := (first | (simp only [List.length_set, hl]; omega) | omega | rfl)) only [sL, aEval_tmp]); done)) | (refine Wp.cond_false ?_ ?_; focus ((simp (disch := (first | (simp only [List.length_set, hl]; omega) | omega | rfl)) only [sL, aEval_tmp]); done)))
    simp only [aRes_none Try.results34]
    refine ⟨trivial, ?_⟩
    exact c
set_option maxHeartbeats 1000000 in
theorem more_9 (c : XRS Z H0 h ki kr bv bs x kt T L) (hn : x.cs.length = 36) (hz : ∀ i, i < 14 → x.cs[5 + i]? = sattrZ[i]?) :
    Cl Try.prog 34 [pt ki 0, .int .i64 9, pt kt 0] h fun v h' => v = .tuple #[] ∧ XRS Z H0 h' ki kr bv bs (pMore bs 9 x) kt T L := by
  refine Cl.enter Try.func34 rfl 160 Try.ntmps34 (by simp) ?_
  intro env hl ha
  have h0 : sl env 0 = pt ki 0 := ha 0 (by simp)
  have h1 : sl env 1 = .int .i64 9 := ha 1 (by simp)
  have h2 : sl env 2 = pt kt 0 := ha 2 (by simp)
  clear ha
  repeat (first | (with_reducible refine Wp.st ?_; simp only [wS]) | with_reducible refine Wp.drawS (by decide +kernel) ?_ | simp (disch := (first | (simp only [List.length_set, hl]; omega) | omega | rfl)) only [walkA, walkB, bne_self_eq_false, beq_self_eq_true, Option.map_some, Option.map_none, reduceIte, decide_true, decide_false, Int.reduceLT, Int.reduceLE, Int.reduceMul, Int.reduceAdd, Int.reduceSub, h0, h1, h2, Int.reduceBEq, Int.reduceBNe, Int.reduceGT, Int.reduceGE] | (refine Wp.cond_true ?_ ?_; focus ((simp (disch := (first | (simp only [List.length_set, hl]; omega) | omega | rfl)) only [sL, aEval_tmp]); done)) | (refine Wp.cond_false ?_ ?_; focus ((simp (disch := (first | (simp only [List.length_set, hl]; omega) | omega | rfl)) only [sL, aEval_tmp]); done)))
  refine (inSet_am c).mono ?_
  intro v ha q
  rw [q.1]
  obtain ⟨hd, p1, c⟩ := XRS.set (o := 5) (x := x) (by (try simp only [pLens]); omega) (zset fun i hi => by (try simp (disch := omega) only [pGets]); exact hz i hi) q.2
  clear q
  repeat (first | (with_reducible refine Wp.st ?_; simp only [wS]) | with_reducible refine Wp.drawS (by decide +kernel) ?_ | simp (disch := (first | (simp only [List.length_set, hl]; omega) | omega | rfl)) only [walkA, walkB, bne_self_eq_false, beq_self_eq_true, Option.map_some, Option.map_none, reduceIte, decide_true, decide_false, Int.reduceLT, Int.reduceLE, Int.reduceMul, Int.reduceAdd, Int.reduceSub, h0, h1, h2, faA5, p1, Int.reduceBEq, Int.reduceBNe, Int.reduceGT, Int.reduceGE] | (refine Wp.cond_true ?_ ?_; focus ((simp (disch := (first | (simp only [List.length_set, hl]; omega) | omega | rfl)) only [sL, aEval_tmp]); done)) | (refine Wp.cond_false ?_ ?_; focus ((simp (disch := (first | (simp only [List.length_set, hl]; omega) | omega | rfl)) only [sL, aEval_tmp]); done)))
  simp only [aRes_none Try.results34]
  refine ⟨trivial, ?_⟩
  have e : pMore bs 9 x = (pSet bs 5 x) := rfl
  rw [e]
  exact c
set_option maxHeartbeats 1000000 in
theorem more_10 (c : XRS Z H0 h ki kr bv bs x kt T L) (hn : x.cs.length = 36) (hz : ∀ i, i < 14 → x.cs[5 + i]? = sattrZ[i]?) :
    Cl Try.prog 34 [pt ki 0, .int .i64 10, pt kt 0] h fun v h' => v = .tuple #[] ∧ XRS Z H0 h' ki kr bv bs (pMore bs 10 x) kt T L := by
  refine Cl.enter Try.func34 rfl 160 Try.ntmps34 (by simp) ?_
  intro env hl ha
  have h0 : sl env 0 = pt ki 0 := ha 0 (by simp)
  have h1 : sl env 1 = .int .i64 10 := ha 1 (by simp)
  have h2 : sl env 2 = pt kt 0 := ha 2 (by simp)
  clear ha
  repeat (first | (with_reducible refine Wp.st ?_; simp only [wS]) | with_reducible refine Wp.drawS (by decide +kernel) ?_ | simp (disch := (first | (simp only [List.length_set, hl]; omega) | omega | rfl)) only [walkA, walkB, bne_self_eq_false, beq_self_eq_true, Option.map_some, Option.map_none, reduceIte, decide_true, decide_false, Int.reduceLT, Int.reduceLE, Int.reduceMul, Int.reduceAdd, Int.reduceSub, h0, h1, h2, Int.reduceBEq, Int.reduceBNe, Int.reduceGT, Int.reduceGE] | (refine Wp.cond_true ?_ ?_; focus ((simp (disch := (first | (simp only [List.length_set, hl]; omega) | omega | rfl)) only [sL, aEval_tmp]); done)) | (refine Wp.cond_false ?_ ?_; focus ((simp (disch := (first | (simp only [List.length_set, hl]; omega) | omega | rfl)) only [sL, aEval_tmp]); done)))
  refine (inSet_am c).mono ?_
  intro v ha q
  rw [q.1]
  obtain ⟨hd, p1, c⟩ := XRS.set (o := 5) (x := x) (by (try simp only [pLens]); omega) (zset fun i hi => by (try simp (disch := omega) only [pGets]); exact hz i hi) q.2
  clear q
  repeat (first | (with_reducible refine Wp.st ?_; simp only [wS]) | with_reducible refine Wp.drawS (by decide +kernel) ?_ | simp (disch := (first | (simp only [List.length_set, hl]; omega) | omega | rfl)) only [walkA, walkB, bne_self_eq_false, beq_self_eq_true, Option.map_some, Option.map_none, reduceIte, decide_true, decide_false, Int.reduceLT, Int.reduceLE, Int.reduceMul, Int.reduceAdd, Int.reduceSub, h0, h1, h2, faA5, p1, Int.reduceBEq, Int.reduceBNe, Int.reduceGT, Int.reduceGE] | (refine Wp.cond_true ?_ ?_; focus ((simp (disch := (first | (simp only [List.length_set, hl]; omega) | omega | rfl)) only [sL, aEval_tmp]); done)) | (refine Wp.cond_false ?_ ?_; focus ((simp (disch := (first | (simp only [List.length_set, hl]; omega) | omega | rfl)) only [sL, aEval_tmp]); done)))
  refine (inText_am 1024 (by decide) (by decide) c).mono ?_
  intro v ha q
  rw [q.1]
  obtain ⟨hd, p1, c⟩ := XRS.text (o := 4) (x := (pSet bs 5 x)) (by (try simp only [pLens]); omega) q.2
  clear q
  repeat (first | (with_reducible refine Wp.st ?_; simp only [wS]) | with_reducible refine Wp.drawS (by decide +kernel) ?_ | simp (disch := (first | (simp only [List.length_set, hl]; omega) | omega | rfl)) only [walkA, walkB, bne_self_eq_false, beq_self_eq_true, Option.map_some, Option.map_none, reduceIte, decide_true, decide_false, Int.reduceLT, Int.reduceLE, Int.reduceMul, Int.reduceAdd, Int.reduceSub, h0, h1, h2, faA4, p1, Int.reduceBEq, Int.reduceBNe, Int.reduceGT, Int.reduceGE] | (refine Wp.cond_true ?_ ?_; focus ((simp (disch := (first | (simp only [List.length_set, hl]; omega) | omega | rfl)) only [sL, aEval_tmp]); done)) | (refine Wp.cond_false ?_ ?_; focus ((simp (disch := (first | (simp only [List.length_set, hl]; omega) | omega | rfl)) only [sL, aEval_tmp]); done)))
  simp only [aRes_none Try.results34]
  refine ⟨trivial, ?_⟩
  have e : pMore bs 10 x = (pText bs 4 1024 (pSet bs 5 x)) := rfl
  rw [e]
  exact c
set_option maxHeartbeats 1000000 in
theorem more_g14 (p : Int) (hp : p = 14 ∨ p = 15) (c : XRS Z H0 h ki kr bv bs x kt T L) (hn : x.cs.length = 36) :
    Cl Try.prog 34 [pt ki 0, .int .i64 p, pt kt 0] h fun v h' => v = .tuple #[] ∧ XRS Z H0 h' ki kr bv bs (pMore bs p x) kt T L := by
  refine Cl.enter Try.func34 rfl 160 Try.ntmps34 (by simp) ?_
  intro env hl ha
  have h0 : sl env 0 = pt ki 0 := ha 0 (by simp)
  have h1 : sl env 1 = .int .i64 p := ha 1 (by simp)
  have h2 : sl env 2 = pt kt 0 := ha 2 (by simp)
  clear ha
  rcases hp with rfl | rfl
  all_goals
    repeat (first | (with_reducible refine Wp.st ?_; simp only [wS]) | with_reducible refine Wp.drawS (by decide +kernel) ?_ | simp (disch := (first | (simp only [List.length_set, hl]; omega) | omega | rfl)) only [walkA, walkB, bne_self_eq_false, beq_self_eq_true, Option.map_some, Option.map_none, reduceIte, decide_true, decide_false, Int.reduceLT, Int.reduceLE, Int.reduceMul, Int.reduceAdd, Int.reduceSub, h0, h1, h2, Int.reduceBEq, Int.reduceBNe, Int.reduceGT, Int.reduceGE] | (refine Wp.cond_true ?_ ?_; focus ((simp (disch := (first | (simp only [List.length_set, hl]; omega) | omega | rfl)) only [sL, aEval_tmp]); done)) | (refine Wp.cond_false ?_ ?_; focus ((simp (disch := (first | (simp only [List.length_set, hl]; omega) | omega | rfl)) only [sL, aEval_tmp]); done)))
    refine (inText_am 64 (by decide) (by decide) c).mono ?_
    intro v ha q
    rw [q.1]
    obtain ⟨hd, p1, c⟩ := XRS.text (o := 1) (x := x) (by (try simp only [pLens]); omega) q.2
    clear q
    repeat (first | (with_reducible refine Wp.st ?_; simp only [wS]) | with_reducible refine Wp.drawS (by decide +kernel) ?_ | simp (disch := (first | (simp only [List.length_set, hl]; omega) | omega | rfl)) only [walkA, walkB, bne_self_eq_false, beq_self_eq_true, Option.map_some, Option.map_none, reduceIte, decide_true, decide_false, Int.reduceLT, Int.reduceLE, Int.reduceMul, Int.reduceAdd, Int.reduceSub, h0, h1, h2, faA1, p1, Int.reduceBEq, Int.reduceBNe, Int.reduceGT, Int.reduceGE] | (refine Wp.cond_true ?_ ?_; focus ((simp (disch := (first | (simp only [List.length_set, hl]; omega) | omega | rfl)) only [sL, aEval_tmp]); done)) | (refine Wp.cond_false ?_ ?_; focus ((simp (disch := (first | (simp only [List.length_set, hl]; omega) | omega | rfl)) only [sL, aEval_tmp]); done)))
    refine (inText_am 255 (by decide) (by decide) c).mono ?_
    intro v ha q
    rw [q.1]
    obtain ⟨hd, p1, c⟩ := XRS.text (o := 3) (x := (pText bs 1 64 x)) (by (try simp only [pLens]); omega) q.2
    clear q
    repeat (first | (with_reducible refine Wp.st ?_; simp only [wS]) | with_reducible refine Wp.drawS (by decide +kernel) ?_ | simp (disch := (first | (simp only [List.length_set, hl]; omega) | omega | rfl)) only [walkA, walkB, bne_self_eq_false, beq_self_eq_true, Option.map_some, Option.map_none, reduceIte, decide_true, decide_false, Int.reduceLT, Int.reduceLE, Int.reduceMul, Int.reduceAdd, Int.reduceSub, h0, h1, h2, faA3, p1, Int.reduceBEq, Int.reduceBNe, Int.reduceGT, Int.reduceGE] | (refine Wp.cond_true ?_ ?_; focus ((simp (disch := (first | (simp only [List.length_set, hl]; omega) | omega | rfl)) only [sL, aEval_tmp]); done)) | (refine Wp.cond_false ?_ ?_; focus ((simp (disch := (first | (simp only [List.length_set, hl]; omega) | omega | rfl)) only [sL, aEval_tmp]); done)))
    simp only [aRes_none Try.results34]
    refine ⟨trivial, ?_⟩
    exact c
set_option maxHeartbeats 1000000 in
theorem more_16 (c : XRS Z H0 h ki kr bv bs x kt T L) (hn : x.cs.length = 36) :
    Cl Try.prog 34 [pt ki 0, .int .i64 16, pt kt 0] h fun v h' => v = .tuple #[] ∧ XRS Z H0 h' ki kr bv bs (pMore bs 16 x) kt T L := by
  refine Cl.enter Try.func34 rfl 160 Try.ntmps34 (by simp) ?_
  intro env hl ha
  have h0 : sl env 0 = pt ki 0 := ha 0 (by simp)
  have h1 : sl env 1 = .int .i64 16 := ha 1 (by simp)
  have h2 : sl env 2 = pt kt 0 := ha 2 (by simp)
  clear ha
  have lr := XR.lr c
  repeat (first | (with_reducible refine Wp.st ?_; simp only [wS]) | with_reducible refine Wp.drawS (by decide +kernel) ?_ | simp (disch := (first | (simp only [List.length_set, hl]; omega) | omega | rfl)) only [walkA, walkB, bne_self_eq_false, beq_self_eq_true, Option.map_some, Option.map_none, reduceIte, decide_true, decide_false, Int.reduceLT, Int.reduceLE, Int.reduceMul, Int.reduceAdd, Int.reduceSub, h0, h1, h2, faN0, lr, Int.reduceBEq, Int.reduceBNe, Int.reduceGT, Int.reduceGE] | (refine Wp.cond_true ?_ ?_; focus ((simp (disch := (first | (simp only [List.length_set, hl]; omega) | omega | rfl)) only [sL, aEval_tmp]); done)) | (refine Wp.cond_false ?_ ?_; focus ((simp (disch := (first | (simp only [List.length_set, hl]; omega) | omega | rfl)) only [sL, aEval_tmp]); done)))
  refine (xU64_am kr _ bv bs _ _ (XR.rd c)).mono ?_
  intro v ha q
  rw [q.1]
  obtain ⟨hd, p1, c⟩ := XRS.u64 (o := 30) (x := x) c (by (try simp only [pLens]); omega) q.2.1 q.2.2
  clear q
  have lr := XR.lr c
  repeat (first | (with_reducible refine Wp.st ?_; simp only [wS]) | with_reducible refine Wp.drawS (by decide +kernel) ?_ | simp (disch := (first | (simp only [List.length_set, hl]; omega) | omega | rfl)) only [walkA, walkB, bne_self_eq_false, beq_self_eq_true, Option.map_some, Option.map_none, reduceIte, decide_true, decide_false, Int.reduceLT, Int.reduceLE, Int.reduceMul, Int.reduceAdd, Int.reduceSub, h0, h1, h2, faA16, p1, faN0, lr, Int.reduceBEq, Int.reduceBNe, Int.reduceGT, Int.reduceGE] | (refine Wp.cond_true ?_ ?_; focus ((simp (disch := (first | (simp only [List.length_set, hl]; omega) | omega | rfl)) only [sL, aEval_tmp]); done)) | (refine Wp.cond_false ?_ ?_; focus ((simp (disch := (first | (simp only [List.length_set, hl]; omega) | omega | rfl)) only [sL, aEval_tmp]); done)))
  refine (xU64_am kr _ bv bs _ _ (XR.rd c)).mono ?_
  intro v ha q
  rw [q.1]
  obtain ⟨hd, p1, c⟩ := XRS.u64 (o := 31) (x := (pU64 bs 30 x)) c (by (try simp only [pLens]); omega) q.2.1 q.2.2
  clear q
  repeat (first | (with_reducible refine Wp.st ?_; simp only [wS]) | with_reducible refine Wp.drawS (by decide +kernel) ?_ | simp (disch := (first | (simp only [List.length_set, hl]; omega) | omega | rfl)) only [walkA, walkB, bne_self_eq_false, beq_self_eq_true, Option.map_some, Option.map_none, reduceIte, decide_true, decide_false, Int.reduceLT, Int.reduceLE, Int.reduceMul, Int.reduceAdd, Int.reduceSub, h0, h1, h2, faA17, p1, Int.reduceBEq, Int.reduceBNe, Int.reduceGT, Int.reduceGE] | (refine Wp.cond_true ?_ ?_; focus ((simp (disch := (first | (simp only [List.length_set, hl]; omega) | omega | rfl)) only [sL, aEval_tmp]); done)) | (refine Wp.cond_false ?_ ?_; focus ((simp (disch := (first | (simp only [List.length_set, hl]; omega) | omega | rfl)) only [sL, aEval_tmp]); done)))
  refine (inU32_am c).mono ?_
  intro v ha q
  rw [q.1]
  obtain ⟨hd, p1, c⟩ := XRS.u32 (o := 24) (x := (pU64 bs 31 (pU64 bs 30 x))) (by (try simp only [pLens]); omega) q.2
  clear q
  repeat (first | (with_reducible refine Wp.st ?_; simp only [wS]) | with_reducible refine Wp.drawS (by decide +kernel) ?_ | simp (disch := (first | (simp only [List.length_set, hl]; omega) | omega | rfl)) only [walkA, walkB, bne_self_eq_false, beq_self_eq_true, Option.map_some, Option.map_none, reduceIte, decide_true, decide_false, Int.reduceLT, Int.reduceLE, Int.reduceMul, Int.reduceAdd, Int.reduceSub, h0, h1, h2, faA10, p1, Int.reduceBEq, Int.reduceBNe, Int.reduceGT, Int.reduceGE] | (refine Wp.cond_true ?_ ?_; focus ((simp (disch := (first | (simp only [List.length_set, hl]; omega) | omega | rfl)) only [sL, aEval_tmp]); done)) | (refine Wp.cond_false ?_ ?_; focus ((simp (disch := (first | (simp only [List.length_set, hl]; omega) | omega | rfl)) only [sL, aEval_tmp]); done)))
  simp only [aRes_none Try.results34]
  refine ⟨trivial, ?_⟩
  have e : pMore bs 16 x = (pU32 bs 24 (pU64 bs 31 (pU64 bs 30 x))) := rfl
  rw [e]
  exact c
set_option maxHeartbeats 1000000 in
theorem more_17 (c : XRS Z H0 h ki kr bv bs x kt T L) (hn : x.cs.length = 36) :
    Cl Try.prog 34 [pt ki 0, .int .i64 17, pt kt 0] h fun v h' => v = .tuple #[] ∧ XRS Z H0 h' ki kr bv bs (pMore bs 17 x) kt T L := by
  refine Cl.enter Try.func34 rfl 160 Try.ntmps34 (by simp) ?_
  intro env hl ha
  have h0 : sl env 0 = pt ki 0 := ha 0 (by simp)
  have h1 : sl env 1 = .int .i64 17 := ha 1 (by simp)
  have h2 : sl env 2 = pt kt 0 := ha 2 (by simp)
  clear ha
  have lr := XR.lr c
  repeat (first | (with_reducible refine Wp.st ?_; simp only [wS]) | with_reducible refine Wp.drawS (by decide +kernel) ?_ | simp (disch := (first | (simp only [List.length_set, hl]; omega) | omega | rfl)) only [walkA, walkB, bne_self_eq_false, beq_self_eq_true, Option.map_some, Option.map_none, reduceIte, decide_true, decide_false, Int.reduceLT, Int.reduceLE, Int.reduceMul, Int.reduceAdd, Int.reduceSub, h0, h1, h2, faN0, lr, Int.reduceBEq, Int.reduceBNe, Int.reduceGT, Int.reduceGE] | (refine Wp.cond_true ?_ ?_; focus ((simp (disch := (first | (simp only [List.length_set, hl]; omega) | omega | rfl)) only [sL, aEval_tmp]); done)) | (refine Wp.cond_false ?_ ?_; focus ((simp (disch := (first | (simp only [List.length_set, hl]; omega) | omega | rfl)) only [sL, aEval_tmp]); done)))
  refine (xU64_am kr _ bv bs _ _ (XR.rd c)).mono ?_
  intro v ha q
  rw [q.1]
  obtain ⟨hd, p1, c⟩ := XRS.u64 (o := 30) (x := x) c (by (try simp only [pLens]); omega) q.2.1 q.2.2
  clear q
  have lr := XR.lr c
  repeat (first | (with_reducible refine Wp.st ?_; simp only [wS]) | with_reducible refine Wp.drawS (by decide +kernel) ?_ | simp (disch := (first | (simp only [List.length_set, hl]; omega) | omega | rfl)) only [walkA, walkB, bne_self_eq_false, beq_self_eq_true, Option.map_some, Option.map_none, reduceIte, decide_true, decide_false, Int.reduceLT, Int.reduceLE, Int.reduceMul, Int.reduceAdd, Int.reduceSub, h0, h1, h2, faA16, p1, faN0, lr, Int.reduceBEq, Int.reduceBNe, Int.reduceGT, Int.reduceGE] | (refine Wp.cond_true ?_ ?_; focus ((simp (disch := (first | (simp only [List.length_set, hl]; omega) | omega | rfl)) only [sL, aEval_tmp]); done)) | (refine Wp.cond_false ?_ ?_; focus ((simp (disch := (first | (simp only [List.length_set, hl]; omega) | omega | rfl)) only [sL, aEval_tmp]); done)))
  refine (xU64_am kr _ bv bs _ _ (XR.rd c)).mono ?_
  intro v ha q
  rw [q.1]
  obtain ⟨hd, p1, c⟩ := XRS.u64 (o := 31) (x := (pU64 bs 30 x)) c (by (try simp only [pLens]); omega) q.2.1 q.2.2
  clear q
  repeat (first | (with_reducible refine Wp.st ?_; simp only [wS]) | with_reducible refine Wp.drawS (by decide +kernel) ?_ | simp (disch := (first | (simp only [List.length_set, hl]; omega) | omega | rfl)) only [walkA, walkB, bne_self_eq_false, beq_self_eq_true, Option.map_some, Option.map_none, reduceIte, decide_true, decide_false, Int.reduceLT, Int.reduceLE, Int.reduceMul, Int.reduceAdd, Int.reduceSub, h0, h1, h2, faA17, p1, Int.reduceBEq, Int.reduceBNe, Int.reduceGT, Int.reduceGE] | (refine Wp.cond_true ?_ ?_; focus ((simp (disch := (first | (simp only [List.length_set, hl]; omega) | omega | rfl)) only [sL, aEval_tmp]); done)) | (refine Wp.cond_false ?_ ?_; focus ((simp (disch := (first | (simp only [List.length_set, hl]; omega) | omega | rfl)) only [sL, aEval_tmp]); done)))
  refine (inU32_am c).mono ?_
  intro v ha q
  rw [q.1]
  obtain ⟨hd, p1, c⟩ := XRS.u32 (o := 32) (x := (pU64 bs 31 (pU64 bs 30 x))) (by (try simp only [pLens]); omega) q.2
  clear q
  repeat (first | (with_reducible refine Wp.st ?_; simp only [wS]) | with_reducible refine Wp.drawS (by decide +kernel) ?_ | simp (disch := (first | (simp only [List.length_set, hl]; omega) | omega | rfl)) only [walkA, walkB, bne_self_eq_false, beq_self_eq_true, Option.map_some, Option.map_none, reduceIte, decide_true, decide_false, Int.reduceLT, Int.reduceLE, Int.reduceMul, Int.reduceAdd, Int.reduceSub, h0, h1, h2, faA18, p1, Int.reduceBEq, Int.reduceBNe, Int.reduceGT, Int.reduceGE] | (refine Wp.cond_true ?_ ?_; focus ((simp (disch := (first | (simp only [List.length_set, hl]; omega) | omega | rfl)) only [sL, aEval_tmp]); done)) | (refine Wp.cond_false ?_ ?_; focus ((simp (disch := (first | (simp only [List.length_set, hl]; omega) | omega | rfl)) only [sL, aEval_tmp]); done)))
  refine (inU32_am c).mono ?_
  intro v ha q
  rw [q.1]
  obtain ⟨hd, p1, c⟩ := XRS.u32 (o := 33) (x := (pU32 bs 32 (pU64 bs 31 (pU64 bs 30 x)))) (by (try simp only [pLens]); omega) q.2
  clear q
  repeat (first | (with_reducible refine Wp.st ?_; simp only [wS]) | with_reducible refine Wp.drawS (by decide +kernel) ?_ | simp (disch := (first | (simp only [List.length_set, hl]; omega) | omega | rfl)) only [walkA, walkB, bne_self_eq_false, beq_self_eq_true, Option.map_some, Option.map_none, reduceIte, decide_true, decide_false, Int.reduceLT, Int.reduceLE, Int.reduceMul, Int.reduceAdd, Int.reduceSub, h0, h1, h2, faA19, p1, Int.reduceBEq, Int.reduceBNe, Int.reduceGT, Int.reduceGE] | (refine Wp.cond_true ?_ ?_; focus ((simp (disch := (first | (simp only [List.length_set, hl]; omega) | omega | rfl)) only [sL, aEval_tmp]); done)) | (refine Wp.cond_false ?_ ?_; focus ((simp (disch := (first | (simp only [List.length_set, hl]; omega) | omega | rfl)) only [sL, aEval_tmp]); done)))
  simp only [aRes_none Try.results34]
  refine ⟨trivial, ?_⟩
  have e : pMore bs 17 x = (pU32 bs 33 (pU32 bs 32 (pU64 bs 31 (pU64 bs 30 x)))) := rfl
  rw [e]
  exact c
set_option maxHeartbeats 1000000 in
theorem more_8 (c : XRS Z H0 h ki kr bv bs x kt T L) (hn : x.cs.length = 36) (hz : ∀ i, i < 14 → x.cs[5 + i]? = sattrZ[i]?) :
    Cl Try.prog 34 [pt ki 0, .int .i64 8, pt kt 0] h fun v h' => v = .tuple #[] ∧ XRS Z H0 h' ki kr bv bs (pMore bs 8 x) kt T L := by
  refine Cl.enter Try.func34 rfl 160 Try.ntmps34 (by simp) ?_
  intro env hl ha
  have h0 : sl env 0 = pt ki 0 := ha 0 (by simp)
  have h1 : sl env 1 = .int .i64 8 := ha 1 (by simp)
  have h2 : sl env 2 = pt kt 0 := ha 2 (by simp)
  clear ha
  repeat (first | (with_reducible refine Wp.st ?_; simp only [wS]) | with_reducible refine Wp.drawS (by decide +kernel) ?_ | simp (disch := (first | (simp only [List.length_set, hl]; omega) | omega | rfl)) only [walkA, walkB, bne_self_eq_false, beq_self_eq_true, Option.map_some, Option.map_none, reduceIte, decide_true, decide_false, Int.reduceLT, Int.reduceLE, Int.reduceMul, Int.reduceAdd, Int.reduceSub, h0, h1, h2, Int.reduceBEq, Int.reduceBNe, Int.reduceGT, Int.reduceGE] | (refine Wp.cond_true ?_ ?_; focus ((simp (disch := (first | (simp only [List.length_set, hl]; omega) | omega | rfl)) only [sL, aEval_tmp]); done)) | (refine Wp.cond_false ?_ ?_; focus ((simp (disch := (first | (simp only [List.length_set, hl]; omega) | omega | rfl)) only [sL, aEval_tmp]); done)))
  refine (inUpto_am 0 2 c).mono ?_
  intro v ha q
  rw [q.1]
  obtain ⟨hd, p1, c, ld⟩ := XRS.num (o := 26) (x := x) (by (try simp only [pLens]); omega) q.2
  clear q
  by_cases h2' : (rNum bs 4 x.s).1 = 2
  · have d : ((rNum bs 4 x.s).1 == 2) = true := by simpa using h2'
    have lr := XR.lr c
    repeat (first | (with_reducible refine Wp.st ?_; simp only [wS]) | with_reducible refine Wp.drawS (by decide +kernel) ?_ | simp (disch := (first | (simp only [List.length_set, hl]; omega) | omega | rfl)) only [walkA, walkB, bne_self_eq_false, beq_self_eq_true, Option.map_some, Option.map_none, reduceIte, decide_true, decide_false, Int.reduceLT, Int.reduceLE, Int.reduceMul, Int.reduceAdd, Int.reduceSub, h0, h1, h2, faA12, p1, ld, d, faN0, lr, Int.reduceBEq, Int.reduceBNe, Int.reduceGT, Int.reduceGE] | (refine Wp.cond_true ?_ ?_; focus ((simp (disch := (first | (simp only [List.length_set, hl]; omega) | omega | rfl)) only [sL, aEval_tmp]); done)) | (refine Wp.cond_false ?_ ?_; focus ((simp (disch := (first | (simp only [List.length_set, hl]; omega) | omega | rfl)) only [sL, aEval_tmp]); done)))
    refine (xU64_am kr _ bv bs _ _ (XR.rd c)).mono ?_
    intro v ha q
    rw [q.1]
    obtain ⟨hd, p1, c⟩ := XRS.u64 (o := 29) (x := (pNum bs 26 0 2 x)) c (by (try simp only [pLens]); omega) q.2.1 q.2.2
    clear q
    repeat (first | (with_reducible refine Wp.st ?_; simp only [wS]) | with_reducible refine Wp.drawS (by decide +kernel) ?_ | simp (disch := (first | (simp only [List.length_set, hl]; omega) | omega | rfl)) only [walkA, walkB, bne_self_eq_false, beq_self_eq_true, Option.map_some, Option.map_none, reduceIte, decide_true, decide_false, Int.reduceLT, Int.reduceLE, Int.reduceMul, Int.reduceAdd, Int.reduceSub, h0, h1, h2, faA15, p1, Int.reduceBEq, Int.reduceBNe, Int.reduceGT, Int.reduceGE] | (refine Wp.cond_true ?_ ?_; focus ((simp (disch := (first | (simp only [List.length_set, hl]; omega) | omega | rfl)) only [sL, aEval_tmp]); done)) | (refine Wp.cond_false ?_ ?_; focus ((simp (disch := (first | (simp only [List.length_set, hl]; omega) | omega | rfl)) only [sL, aEval_tmp]); done)))
    simp only [aRes_none Try.results34]
    refine ⟨trivial, ?_⟩
    have e : pMore bs 8 x = (pU64 bs 29 (pNum bs 26 0 2 x)) := by unfold pMore; rw [if_pos rfl, if_pos h2']
    rw [e]
    exact c
  · have d : ((rNum bs 4 x.s).1 == 2) = false := by simpa using h2'
    repeat (first | (with_reducible refine Wp.st ?_; simp only [wS]) | with_reducible refine Wp.drawS (by decide +kernel) ?_ | simp (disch := (first | (simp only [List.length_set, hl]; omega) | omega | rfl)) only [walkA, walkB, bne_self_eq_false, beq_self_eq_true, Option.map_some, Option.map_none, reduceIte, decide_true, decide_false, Int.reduceLT, Int.reduceLE, Int.reduceMul, Int.reduceAdd, Int.reduceSub, h0, h1, h2, faA12, p1, ld, d, Int.reduceBEq, Int.reduceBNe, Int.reduceGT, Int.reduceGE] | (refine Wp.cond_true ?_ ?_; focus ((simp (disch := (first | (simp only [List.length_set, hl]; omega) | omega | rfl)) only [sL, aEval_tmp]); done)) | (refine Wp.cond_false ?_ ?_; focus ((simp (disch := (first | (simp only [List.length_set, hl]; omega) | omega | rfl)) only [sL, aEval_tmp]); done)))
    refine (inSet_am c).mono ?_
    intro v ha q
    rw [q.1]
    obtain ⟨hd, p1, c⟩ := XRS.set (o := 5) (x := (pNum bs 26 0 2 x)) (by (try simp only [pLens]); omega) (zset fun i hi => by (try simp (disch := omega) only [pGets]); exact hz i hi) q.2
    clear q
    repeat (first | (with_reducible refine Wp.st ?_; simp only [wS]) | with_reducible refine Wp.drawS (by decide +kernel) ?_ | simp (disch := (first | (simp only [List.length_set, hl]; omega) | omega | rfl)) only [walkA, walkB, bne_self_eq_false, beq_self_eq_true, Option.map_some, Option.map_none, reduceIte, decide_true, decide_false, Int.reduceLT, Int.reduceLE, Int.reduceMul, Int.reduceAdd, Int.reduceSub, h0, h1, h2, faA5, p1, Int.reduceBEq, Int.reduceBNe, Int.reduceGT, Int.reduceGE] | (refine Wp.cond_true ?_ ?_; focus ((simp (disch := (first | (simp only [List.length_set, hl]; omega) | omega | rfl)) only [sL, aEval_tmp]); done)) | (refine Wp.cond_false ?_ ?_; focus ((simp (disch := (first | (simp only [List.length_set, hl]; omega) | omega | rfl)) only [sL, aEval_tmp]); done)))
    simp only [aRes_none Try.results34]
    refine ⟨trivial, ?_⟩
    have e : pMore bs 8 x = (pSet bs 5 (pNum bs 26 0 2 x)) := by unfold pMore; rw [if_pos rfl, if_neg h2']
    rw [e]
    exact c
set_option maxHeartbeats 1000000 in
theorem more_11 (c : XRS Z H0 h ki kr bv bs x kt T L) (hn : x.cs.length = 36) (hz : ∀ i, i < 14 → x.cs[5 + i]? = sattrZ[i]?) :
    Cl Try.prog 34 [pt ki 0, .int .i64 11, pt kt 0] h fun v h' => v = .tuple #[] ∧ XRS Z H0 h' ki kr bv bs (pMore bs 11 x) kt T L := by
  refine Cl.enter Try.func34 rfl 160 Try.ntmps34 (by simp) ?_
  intro env hl ha
  have h0 : sl env 0 = pt ki 0 := ha 0 (by simp)
  have h1 : sl env 1 = .int .i64 11 := ha 1 (by simp)
  have h2 : sl env 2 = pt kt 0 := ha 2 (by simp)
  clear ha
  repeat (first | (with_reducible refine Wp.st ?_; simp only [wS]) | with_reducible refine Wp.drawS (by decide +kernel) ?_ | simp (disch := (first | (simp only [List.length_set, hl]; omega) | omega | rfl)) only [walkA, walkB, bne_self_eq_false, beq_self_eq_true, Option.map_some, Option.map_none, reduceIte, decide_true, decide_false, Int.reduceLT, Int.reduceLE, Int.reduceMul, Int.reduceAdd, Int.reduceSub, h0, h1, h2, Int.reduceBEq, Int.reduceBNe, Int.reduceGT, Int.reduceGE] | (refine Wp.cond_true ?_ ?_; focus ((simp (disch := (first | (simp only [List.length_set, hl]; omega) | omega | rfl)) only [sL, aEval_tmp]); done)) | (refine Wp.cond_false ?_ ?_; focus ((simp (disch := (first | (simp only [List.length_set, hl]; omega) | omega | rfl)) only [sL, aEval_tmp]); done)))
  refine (inUpto_am 1 7 c).mono ?_
  intro v ha q
  rw [q.1]
  obtain ⟨hd, p1, c, ld⟩ := XRS.num (o := 27) (x := x) (by (try simp only [pLens]); omega) q.2
  clear q
  have eld : ∀ (h' : Heap), XRS Z H0 h' ki kr bv bs (pSet bs 5 (pNum bs 27 1 7 x)) kt T L → aLoad Try.prog h' 3 (pt kt 27) = some (.int .i64 (rNum bs 4 x.s).1) := fun h' c' => by rw [XR.ld c' Try.underlying3 (by simp) (by simp) 27, pSet_get (by decide)]; simp only [pNum]; rw [List.getElem?_set_self (by omega)]
  generalize hw : (rNum bs 4 x.s).1 = w at *
  by_cases w3 : w = 3
  · subst w3
    repeat (first | (with_reducible refine Wp.st ?_; simp only [wS]) | with_reducible refine Wp.drawS (by decide +kernel) ?_ | simp (disch := (first | (simp only [List.length_set, hl]; omega) | omega | rfl)) only [walkA, walkB, bne_self_eq_false, beq_self_eq_true, Option.map_some, Option.map_none, reduceIte, decide_true, decide_false, Int.reduceLT, Int.reduceLE, Int.reduceMul, Int.reduceAdd, Int.reduceSub, h0, h1, h2, faA13, p1, ld, Int.reduceBEq, Int.reduceBNe, Int.reduceGT, Int.reduceGE] | (refine Wp.cond_true ?_ ?_; focus ((simp (disch := (first | (simp only [List.length_set, hl]; omega) | omega | rfl)) only [sL, aEval_tmp]); done)) | (refine Wp.cond_false ?_ ?_; focus ((simp (disch := (first | (simp only [List.length_set, hl]; omega) | omega | rfl)) only [sL, aEval_tmp]); done)))
    refine (inSet_am c).mono ?_
    intro v ha q
    rw [q.1]
    obtain ⟨hd, p1, c⟩ := XRS.set (o := 5) (x := (pNum bs 27 1 7 x)) (by (try simp only [pLens]); omega) (zset fun i hi => by (try simp (disch := omega) only [pGets]); exact hz i hi) q.2
    clear q
    have ld2 := eld _ c
    repeat (first | (with_reducible refine Wp.st ?_; simp only [wS]) | with_reducible refine Wp.drawS (by decide +kernel) ?_ | simp (disch := (first | (simp only [List.length_set, hl]; omega) | omega | rfl)) only [walkA, walkB, bne_self_eq_false, beq_self_eq_true, Option.map_some, Option.map_none, reduceIte, decide_true, decide_false, Int.reduceLT, Int.reduceLE, Int.reduceMul, Int.reduceAdd, Int.reduceSub, h0, h1, h2, faA5, p1, faA13, ld2, Int.reduceBEq, Int.reduceBNe, Int.reduceGT, Int.reduceGE] | (refine Wp.cond_true ?_ ?_; focus ((simp (disch := (first | (simp only [List.length_set, hl]; omega) | omega | rfl)) only [sL, aEval_tmp]); done)) | (refine Wp.cond_false ?_ ?_; focus ((simp (disch := (first | (simp only [List.length_set, hl]; omega) | omega | rfl)) only [sL, aEval_tmp]); done)))
    refine (inU32_am c).mono ?_
    intro v ha q
    rw [q.1]
    obtain ⟨hd, p1, c⟩ := XRS.u32 (o := 34) (x := (pSet bs 5 (pNum bs 27 1 7 x))) (by (try simp only [pLens]); omega) q.2
    clear q
    repeat (first | (with_reducible refine Wp.st ?_; simp only [wS]) | with_reducible refine Wp.drawS (by decide +kernel) ?_ | simp (disch := (first | (simp only [List.length_set, hl]; omega) | omega | rfl)) only [walkA, walkB, bne_self_eq_false, beq_self_eq_true, Option.map_some, Option.map_none, reduceIte, decide_true, decide_false, Int.reduceLT, Int.reduceLE, Int.reduceMul, Int.reduceAdd, Int.reduceSub, h0, h1, h2, faA20, p1, Int.reduceBEq, Int.reduceBNe, Int.reduceGT, Int.reduceGE] | (refine Wp.cond_true ?_ ?_; focus ((simp (disch := (first | (simp only [List.length_set, hl]; omega) | omega | rfl)) only [sL, aEval_tmp]); done)) | (refine Wp.cond_false ?_ ?_; focus ((simp (disch := (first | (simp only [List.length_set, hl]; omega) | omega | rfl)) only [sL, aEval_tmp]); done)))
    refine (inU32_am c).mono ?_
    intro v ha q
    rw [q.1]
    obtain ⟨hd, p1, c⟩ := XRS.u32 (o := 35) (x := (pU32 bs 34 (pSet bs 5 (pNum bs 27 1 7 x)))) (by (try simp only [pLens]); omega) q.2
    clear q
    repeat (first | (with_reducible refine Wp.st ?_; simp only [wS]) | with_reducible refine Wp.drawS (by decide +kernel) ?_ | simp (disch := (first | (simp only [List.length_set, hl]; omega) | omega | rfl)) only [walkA, walkB, bne_self_eq_false, beq_self_eq_true, Option.map_some, Option.map_none, reduceIte, decide_true, decide_false, Int.reduceLT, Int.reduceLE, Int.reduceMul, Int.reduceAdd, Int.reduceSub, h0, h1, h2, faA21, p1, Int.reduceBEq, Int.reduceBNe, Int.reduceGT, Int.reduceGE] | (refine Wp.cond_true ?_ ?_; focus ((simp (disch := (first | (simp only [List.length_set, hl]; omega) | omega | rfl)) only [sL, aEval_tmp]); done)) | (refine Wp.cond_false ?_ ?_; focus ((simp (disch := (first | (simp only [List.length_set, hl]; omega) | omega | rfl)) only [sL, aEval_tmp]); done)))
    simp only [aRes_none Try.results34]
    refine ⟨trivial, ?_⟩
    have e : pMore bs 11 x = (pU32 bs 35 (pU32 bs 34 (pSet bs 5 (pNum bs 27 1 7 x)))) := by simp [pMore, hw]
    rw [e]
    exact c
  · have d3 : (w == 3) = false := by simpa using w3
    by_cases w4 : w = 4
    · subst w4
      repeat (first | (with_reducible refine Wp.st ?_; simp only [wS]) | with_reducible refine Wp.drawS (by decide +kernel) ?_ | simp (disch := (first | (simp only [List.length_set, hl]; omega) | omega | rfl)) only [walkA, walkB, bne_self_eq_false, beq_self_eq_true, Option.map_some, Option.map_none, reduceIte, decide_true, decide_false, Int.reduceLT, Int.reduceLE, Int.reduceMul, Int.reduceAdd, Int.reduceSub, h0, h1, h2, faA13, p1, ld, Int.reduceBEq, Int.reduceBNe, Int.reduceGT, Int.reduceGE] | (refine Wp.cond_true ?_ ?_; focus ((simp (disch := (first | (simp only [List.length_set, hl]; omega) | omega | rfl)) only [sL, aEval_tmp]); done)) | (refine Wp.cond_false ?_ ?_; focus ((simp (disch := (first | (simp only [List.length_set, hl]; omega) | omega | rfl)) only [sL, aEval_tmp]); done)))
      refine (inSet_am c).mono ?_
      intro v ha q
      rw [q.1]
      obtain ⟨hd, p1, c⟩ := XRS.set (o := 5) (x := (pNum bs 27 1 7 x)) (by (try simp only [pLens]); omega) (zset fun i hi => by (try simp (disch := omega) only [pGets]); exact hz i hi) q.2
      clear q
      have ld2 := eld _ c
      repeat (first | (with_reducible refine Wp.st ?_; simp only [wS]) | with_reducible refine Wp.drawS (by decide +kernel) ?_ | simp (disch := (first | (simp only [List.length_set, hl]; omega) | omega | rfl)) only [walkA, walkB, bne_self_eq_false, beq_self_eq_true, Option.map_some, Option.map_none, reduceIte, decide_true, decide_false, Int.reduceLT, Int.reduceLE, Int.reduceMul, Int.reduceAdd, Int.reduceSub, h0, h1, h2, faA5, p1, faA13, ld2, Int.reduceBEq, Int.reduceBNe, Int.reduceGT, Int.reduceGE] | (refine Wp.cond_true ?_ ?_; focus ((simp (disch := (first | (simp only [List.length_set, hl]; omega) | omega | rfl)) only [sL, aEval_tmp]); done)) | (refine Wp.cond_false ?_ ?_; focus ((simp (disch := (first | (simp only [List.length_set, hl]; omega) | omega | rfl)) only [sL, aEval_tmp]); done)))
      refine (inU32_am c).mono ?_
      intro v ha q
      rw [q.1]
      obtain ⟨hd, p1, c⟩ := XRS.u32 (o := 34) (x := (pSet bs 5 (pNum bs 27 1 7 x))) (by (try simp only [pLens]); omega) q.2
      clear q
      repeat (first | (with_reducible refine Wp.st ?_; simp only [wS]) | with_reducible refine Wp.drawS (by decide +kernel) ?_ | simp (disch := (first | (simp only [List.length_set, hl]; omega) | omega | rfl)) only [walkA, walkB, bne_self_eq_false, beq_self_eq_true, Option.map_some, Option.map_none, reduceIte, decide_true, decide_false, Int.reduceLT, Int.reduceLE, Int.reduceMul, Int.reduceAdd, Int.reduceSub, h0, h1, h2, faA20, p1, Int.reduceBEq, Int.reduceBNe, Int.reduceGT, Int.reduceGE] | (refine Wp.cond_true ?_ ?_; focus ((simp (disch := (first | (simp only [List.length_set, hl]; omega) | omega | rfl)) only [sL, aEval_tmp]); done)) | (refine Wp.cond_false ?_ ?_; focus ((simp (disch := (first | (simp only [List.length_set, hl]; omega) | omega | rfl)) only [sL, aEval_tmp]); done)))
      refine (inU32_am c).mono ?_
      intro v ha q
      rw [q.1]
      obtain ⟨hd, p1, c⟩ := XRS.u32 (o := 35) (x := (pU32 bs 34 (pSet bs 5 (pNum bs 27 1 7 x)))) (by (try simp only [pLens]); omega) q.2
      clear q
      repeat (first | (with_reducible refine Wp.st ?_; simp only [wS]) | with_reducible refine Wp.drawS (by decide +kernel) ?_ | simp (disch := (first | (simp only [List.length_set, hl]; omega) | omega | rfl)) only [walkA, walkB, bne_self_eq_false, beq_self_eq_true, Option.map_some, Option.map_none, reduceIte, decide_true, decide_false, Int.reduceLT, Int.reduceLE, Int.reduceMul, Int.reduceAdd, Int.reduceSub, h0, h1, h2, faA21, p1, Int.reduceBEq, Int.reduceBNe, Int.reduceGT, Int.reduceGE] | (refine Wp.cond_true ?_ ?_; focus ((simp (disch := (first | (simp only [List.length_set, hl]; omega) | omega | rfl)) only [sL, aEval_tmp]); done)) | (refine Wp.cond_false ?_ ?_; focus ((simp (disch := (first | (simp only [List.length_set, hl]; omega) | omega | rfl)) only [sL, aEval_tmp]); done)))
      simp only [aRes_none Try.results34]
      refine ⟨trivial, ?_⟩
      have e : pMore bs 11 x = (pU32 bs 35 (pU32 bs 34 (pSet bs 5 (pNum bs 27 1 7 x)))) := by simp [pMore, hw]
      rw [e]
      exact c
    · have d4 : (w == 4) = false := by simpa using w4
      by_cases w6 : w = 6
      · subst w6
        repeat (first | (with_reducible refine Wp.st ?_; simp only [wS]) | with_reducible refine Wp.drawS (by decide +kernel) ?_ | simp (disch := (first | (simp only [List.length_set, hl]; omega) | omega | rfl)) only [walkA, walkB, bne_self_eq_false, beq_self_eq_true, Option.map_some, Option.map_none, reduceIte, decide_true, decide_false, Int.reduceLT, Int.reduceLE, Int.reduceMul, Int.reduceAdd, Int.reduceSub, h0, h1, h2, faA13, p1, ld, Int.reduceBEq, Int.reduceBNe, Int.reduceGT, Int.reduceGE] | (refine Wp.cond_true ?_ ?_; focus ((simp (disch := (first | (simp only [List.length_set, hl]; omega) | omega | rfl)) only [sL, aEval_tmp]); done)) | (refine Wp.cond_false ?_ ?_; focus ((simp (disch := (first | (simp only [List.length_set, hl]; omega) | omega | rfl)) only [sL, aEval_tmp]); done)))
        refine (inSet_am c).mono ?_
        intro v ha q
        rw [q.1]
        obtain ⟨hd, p1, c⟩ := XRS.set (o := 5) (x := (pNum bs 27 1 7 x)) (by (try simp only [pLens]); omega) (zset fun i hi => by (try simp (disch := omega) only [pGets]); exact hz i hi) q.2
        clear q
        have ld2 := eld _ c
        repeat (first | (with_reducible refine Wp.st ?_; simp only [wS]) | with_reducible refine Wp.drawS (by decide +kernel) ?_ | simp (disch := (first | (simp only [List.length_set, hl]; omega) | omega | rfl)) only [walkA, walkB, bne_self_eq_false, beq_self_eq_true, Option.map_some, Option.map_none, reduceIte, decide_true, decide_false, Int.reduceLT, Int.reduceLE, Int.reduceMul, Int.reduceAdd, Int.reduceSub, h0, h1, h2, faA5, p1, faA13, ld2, Int.reduceBEq, Int.reduceBNe, Int.reduceGT, Int.reduceGE] | (refine Wp.cond_true ?_ ?_; focus ((simp (disch := (first | (simp only [List.length_set, hl]; omega) | omega | rfl)) only [sL, aEval_tmp]); done)) | (refine Wp.cond_false ?_ ?_; focus ((simp (disch := (first | (simp only [List.length_set, hl]; omega) | omega | rfl)) only [sL, aEval_tmp]); done)))
        simp only [aRes_none Try.results34]
        refine ⟨trivial, ?_⟩
        have e : pMore bs 11 x = (pSet bs 5 (pNum bs 27 1 7 x)) := by simp [pMore, hw]
        rw [e]
        exact c
      · have d6 : (w == 6) = false := by simpa using w6
        by_cases w7 : w = 7
        · subst w7
          repeat (first | (with_reducible refine Wp.st ?_; simp only [wS]) | with_reducible refine Wp.drawS (by decide +kernel) ?_ | simp (disch := (first | (simp only [List.length_set, hl]; omega) | omega | rfl)) only [walkA, walkB, bne_self_eq_false, beq_self_eq_true, Option.map_some, Option.map_none, reduceIte, decide_true, decide_false, Int.reduceLT, Int.reduceLE, Int.reduceMul, Int.reduceAdd, Int.reduceSub, h0, h1, h2, faA13, p1, ld, Int.reduceBEq, Int.reduceBNe, Int.reduceGT, Int.reduceGE] | (refine Wp.cond_true ?_ ?_; focus ((simp (disch := (first | (simp only [List.length_set, hl]; omega) | omega | rfl)) only [sL, aEval_tmp]); done)) | (refine Wp.cond_false ?_ ?_; focus ((simp (disch := (first | (simp only [List.length_set, hl]; omega) | omega | rfl)) only [sL, aEval_tmp]); done)))
          refine (inSet_am c).mono ?_
          intro v ha q
          rw [q.1]
          obtain ⟨hd, p1, c⟩ := XRS.set (o := 5) (x := (pNum bs 27 1 7 x)) (by (try simp only [pLens]); omega) (zset fun i hi => by (try simp (disch := omega) only [pGets]); exact hz i hi) q.2
          clear q
          have ld2 := eld _ c
          repeat (first | (with_reducible refine Wp.st ?_; simp only [wS]) | with_reducible refine Wp.drawS (by decide +kernel) ?_ | simp (disch := (first | (simp only [List.length_set, hl]; omega) | omega | rfl)) only [walkA, walkB, bne_self_eq_false, beq_self_eq_true, Option.map_some, Option.map_none, reduceIte, decide_true, decide_false, Int.reduceLT, Int.reduceLE, Int.reduceMul, Int.reduceAdd, Int.reduceSub, h0, h1, h2, faA5, p1, faA13, ld2, Int.reduceBEq, Int.reduceBNe, Int.reduceGT, Int.reduceGE] | (refine Wp.cond_true ?_ ?_; focus ((simp (disch := (first | (simp only [List.length_set, hl]; omega) | omega | rfl)) only [sL, aEval_tmp]); done)) | (refine Wp.cond_false ?_ ?_; focus ((simp (disch := (first | (simp only [List.length_set, hl]; omega) | omega | rfl)) only [sL, aEval_tmp]); done)))
          simp only [aRes_none Try.results34]
          refine ⟨trivial, ?_⟩
          have e : pMore bs 11 x = (pSet bs 5 (pNum bs 27 1 7 x)) := by simp [pMore, hw]
          rw [e]
          exact c
        · have d7 : (w == 7) = false := by simpa using w7
          repeat (first | (with_reducible refine Wp.st ?_; simp only [wS]) | with_reducible refine Wp.drawS (by decide +kernel) ?_ | simp (disch := (first | (simp only [List.length_set, hl]; omega) | omega | rfl)) only [walkA, walkB, bne_self_eq_false, beq_self_eq_true, Option.map_some, Option.map_none, reduceIte, decide_true, decide_false, Int.reduceLT, Int.reduceLE, Int.reduceMul, Int.reduceAdd, Int.reduceSub, h0, h1, h2, faA13, p1, ld, d3, d4, d6, d7, Int.reduceBEq, Int.reduceBNe, Int.reduceGT, Int.reduceGE] | (refine Wp.cond_true ?_ ?_; focus ((simp (disch := (first | (simp only [List.length_set, hl]; omega) | omega | rfl)) only [sL, aEval_tmp]); done)) | (refine Wp.cond_false ?_ ?_; focus ((simp (disch := (first | (simp only [List.length_set, hl]; omega) | omega | rfl)) only [sL, aEval_tmp]); done)))
          simp only [aRes_none Try.results34]
          refine ⟨trivial, ?_⟩
          have e : pMore bs 11 x = (pNum bs 27 1 7 x) := by simp [pMore, hw, w3, w4, w6, w7]
          rw [e]
          exact c
theorem more_am (p : Int) (hp : there p = true) (hq : p ≠ 2 ∧ p ≠ 4 ∧ p ≠ 6 ∧ p ≠ 7 ∧ p ≠ 21 ∧ p ≠ 101 ∧ p ≠ 103) (c : XRS Z H0 h ki kr bv bs x kt T L) (hn : x.cs.length = 36) (hz : ∀ i, i < 14 → x.cs[5 + i]? = sattrZ[i]?) :
    Cl Try.prog 34 [pt ki 0, .int .i64 p, pt kt 0] h fun v h' => v = .tuple #[] ∧ XRS Z H0 h' ki kr bv bs (pMore bs p x) kt T L := by
  rcases there_cases hp with rfl | rfl | rfl | rfl | rfl | rfl | rfl | rfl | rfl | rfl | rfl | rfl | rfl | rfl | rfl | rfl | rfl | rfl | rfl | rfl | rfl | rfl | rfl | rfl | rfl | rfl | rfl | rfl
  · exact more_g0 _ (by decide) c hn
  · exact more_g0 _ (by decide) c hn
  · exact absurd hq (by decide)
  · exact more_g0 _ (by decide) c hn
  · exact absurd hq (by decide)
  · exact more_g0 _ (by decide) c hn
  · exact absurd hq (by decide)
  · exact absurd hq (by decide)
  · exact more_8 c hn hz
  · exact more_9 c hn hz
  · exact more_10 c hn hz
  · exact more_11 c hn hz
  · exact more_g0 _ (by decide) c hn
  · exact more_g0 _ (by decide) c hn
  · exact more_g14 _ (by decide) c hn
  · exact more_g14 _ (by decide) c hn
  · exact more_16 c hn
  · exact more_17 c hn
  · exact more_g0 _ (by decide) c hn
  · exact more_g0 _ (by decide) c hn
  · exact more_g0 _ (by decide) c hn
  · exact absurd hq (by decide)
  · exact more_g0 _ (by decide) c hn
  · exact absurd hq (by decide)
  · exact more_g0 _ (by decide) c hn
  · exact absurd hq (by decide)
  · exact more_g0 _ (by decide) c hn
  · exact more_g0 _ (by decide) c hn
end
end Go.Proofs.Ytanknjpcgceccaa

namespace Go.Proofs.Ytanknjpcgceccaa
open Go Go.AM
set_option linter.unusedSimpArgs false
set_option maxRecDepth 100000
attribute [local irreducible] WOps WV WH WSt WNil WPick WGd
theorem thereX_am (p : Int) (h : Heap) : Cl Try.prog 24 [.int .i64 p] h fun v h' => v = .bool (there p) ∧ h' = h := by
  refine Cl.enter Try.func24 rfl 17 Try.ntmps24 (by simp) ?_
  intro env hl ha
  have h0 : sl env 0 = .int .i64 p := ha 0 (by simp)
  clear ha
  by_cases c1 : 0 ≤ p
  · have d1 : decide (p ≥ 0) = true := decide_eq_true c1
    by_cases c2 : p ≤ 21
    · have d2 : decide (p ≤ 21) = true := decide_eq_true c2
      repeat (first | (with_reducible refine Wp.st ?_; simp only [wS]) | with_reducible refine Wp.drawS (by decide +kernel) ?_ | simp (disch := (first | (simp only [List.length_set, hl]; omega) | omega | rfl)) only [walkA, walkB, bne_self_eq_false, beq_self_eq_true, Option.map_some, Option.map_none, reduceIte, decide_true, decide_false, Int.reduceLT, Int.reduceLE, Int.reduceMul, Int.reduceAdd, Int.reduceSub, h0, d1, d2, WGd_undef])
      simp (disch := (first | (simp only [List.length_set, hl]; omega) | omega | rfl)) only [aRes_one Try.results24, sL]
      exact ⟨by simp [there, c1, c2], trivial⟩
    · have d2 : decide (p ≤ 21) = false := decide_eq_false c2
      by_cases c3 : 100 ≤ p
      · have d3 : decide (p ≥ 100) = true := decide_eq_true c3
        repeat (first | (with_reducible refine Wp.st ?_; simp only [wS]) | with_reducible refine Wp.drawS (by decide +kernel) ?_ | simp (disch := (first | (simp only [List.length_set, hl]; omega) | omega | rfl)) only [walkA, walkB, bne_self_eq_false, beq_self_eq_true, Option.map_some, Option.map_none, reduceIte, decide_true, decide_false, Int.reduceLT, Int.reduceLE, Int.reduceMul, Int.reduceAdd, Int.reduceSub, h0, d1, d2, d3])
        simp (disch := (first | (simp only [List.length_set, hl]; omega) | omega | rfl)) only [aRes_one Try.results24, sL]
        exact ⟨by simp [there, c1, c2, c3], trivial⟩
      · have d3 : decide (p ≥ 100) = false := decide_eq_false c3
        repeat (first | (with_reducible refine Wp.st ?_; simp only [wS]) | with_reducible refine Wp.drawS (by decide +kernel) ?_ | simp (disch := (first | (simp only [List.length_set, hl]; omega) | omega | rfl)) only [walkA, walkB, bne_self_eq_false, beq_self_eq_true, Option.map_some, Option.map_none, reduceIte, decide_true, decide_false, Int.reduceLT, Int.reduceLE, Int.reduceMul, Int.reduceAdd, Int.reduceSub, h0, d1, d2, d3])
        simp (disch := (first | (simp only [List.length_set, hl]; omega) | omega | rfl)) only [aRes_one Try.results24, sL]
        exact ⟨by simp [there, c1, c2, c3], trivial⟩
  · have d1 : decide (p ≥ 0) = false := decide_eq_false c1
    have d3 : decide (p ≥ 100) = false := decide_eq_false (by omega)
    repeat (first | (with_reducible refine Wp.st ?_; simp only [wS]) | with_reducible refine Wp.drawS (by decide +kernel) ?_ | simp (disch := (first | (simp only [List.length_set, hl]; omega) | omega | rfl)) only [walkA, walkB, bne_self_eq_false, beq_self_eq_true, Option.map_some, Option.map_none, reduceIte, decide_true, decide_false, Int.reduceLT, Int.reduceLE, Int.reduceMul, Int.reduceAdd, Int.reduceSub, h0, d1, d3])
    simp (disch := (first | (simp only [List.length_set, hl]; omega) | omega | rfl)) only [aRes_one Try.results24, sL]
    exact ⟨by simp [there, c1]; omega, trivial⟩
def hasName (p : Int) : Bool := (p == 3) || (decide (8 ≤ p) && decide (p ≤ 14))
theorem namedX_am (p : Int) (h : Heap) : Cl Try.prog 26 [.int .i64 p] h fun v h' => v = .bool (hasName p) ∧ h' = h := by
  refine Cl.enter Try.func26 rfl 13 Try.ntmps26 (by simp) ?_
  intro env hl ha
  have h0 : sl env 0 = .int .i64 p := ha 0 (by simp)
  clear ha
  by_cases c0 : p = 3
  · have d0 : (p == 3) = true := by simpa using c0
    repeat (first | (with_reducible refine Wp.st ?_; simp only [wS]) | with_reducible refine Wp.drawS (by decide +kernel) ?_ | simp (disch := (first | (simp only [List.length_set, hl]; omega) | omega | rfl)) only [walkA, walkB, bne_self_eq_false, beq_self_eq_true, Option.map_some, Option.map_none, reduceIte, decide_true, decide_false, Int.reduceLT, Int.reduceLE, Int.reduceMul, Int.reduceAdd, Int.reduceSub, h0, d0, WGd_undef])
    simp (disch := (first | (simp only [List.length_set, hl]; omega) | omega | rfl)) only [aRes_one Try.results26, sL]
    exact ⟨by simp [hasName, c0], trivial⟩
  · have d0 : (p == 3) = false := by simpa using c0
    by_cases c1 : 8 ≤ p
    · have d1 : decide (p ≥ 8) = true := decide_eq_true c1
      repeat (first | (with_reducible refine Wp.st ?_; simp only [wS]) | with_reducible refine Wp.drawS (by decide +kernel) ?_ | simp (disch := (first | (simp only [List.length_set, hl]; omega) | omega | rfl)) only [walkA, walkB, bne_self_eq_false, beq_self_eq_true, Option.map_some, Option.map_none, reduceIte, decide_true, decide_false, Int.reduceLT, Int.reduceLE, Int.reduceMul, Int.reduceAdd, Int.reduceSub, h0, d0, d1])
      simp (disch := (first | (simp only [List.length_set, hl]; omega) | omega | rfl)) only [aRes_one Try.results26, sL]
      exact ⟨by simp [hasName, c0, c1], trivial⟩
    · have d1 : decide (p ≥ 8) = false := decide_eq_false c1
      repeat (first | (with_reducible refine Wp.st ?_; simp only [wS]) | with_reducible refine Wp.drawS (by decide +kernel) ?_ | simp (disch := (first | (simp only [List.length_set, hl]; omega) | omega | rfl)) only [walkA, walkB, bne_self_eq_false, beq_self_eq_true, Option.map_some, Option.map_none, reduceIte, decide_true, decide_false, Int.reduceLT, Int.reduceLE, Int.reduceMul, Int.reduceAdd, Int.reduceSub, h0, d0, d1])
      simp (disch := (first | (simp only [List.length_set, hl]; omega) | omega | rfl)) only [aRes_one Try.results26, sL]
      exact ⟨by simp [hasName, c0, c1], trivial⟩
def hasFile (p : Int) : Bool := decide (1 ≤ p) && decide (p ≤ 21)
def pFile (bs : List Int) (p : Int) (x : RS) : RS := if hasFile p = true then pText bs 0 64 x else x
def pName (bs : List Int) (p : Int) (x : RS) : RS := if hasName p = true then pText bs 2 255 x else x
def pCase (bs : List Int) (p : Int) (x : RS) : RS :=
  if p = 2 then pIf bs 19 (pTime bs 20) (pSet bs 5 x)
  else if p = 4 then pU32 bs 22 x
  else if p = 6 ∨ p = 21 then pU32 bs 24 (pU64 bs 23 x)
  else if p = 7 then (let y := pNum bs 25 0 2 (pU32 bs 24 (pU64 bs 23 x)); ⟨(rBytes bs 8192 y.s).2, y.bad, y.cs⟩)
  else if p = 101 ∨ p = 103 then pText bs 4 1024 x
  else pMore bs p x
def pDataX (bs : List Int) (p : Int) (x : RS) : List Int :=
  if p = 7 then (rBytes bs 8192 (pNum bs 25 0 2 (pU32 bs 24 (pU64 bs 23 x))).s).1 else []
theorem pArgs_case {bs : List Int} {p : Int} (hp : there p = true) (x : RS) : pCase bs p (pName bs p (pFile bs p x)) = pArgs bs p x ∧ pDataX bs p (pName bs p (pFile bs p x)) = pData bs p x := by
  rcases there_cases hp with rfl | rfl | rfl | rfl | rfl | rfl | rfl | rfl | rfl | rfl | rfl | rfl | rfl | rfl | rfl | rfl | rfl | rfl | rfl | rfl | rfl | rfl | rfl | rfl | rfl | rfl | rfl | rfl
  all_goals exact ⟨rfl, rfl⟩
theorem fits_file {bs : List Int} {p : Int} {x : RS} (hn : x.cs.length = 36) (hz : ∀ i, 5 ≤ i → i < 36 → x.cs[i]? = argsZ[i]?) : (pFile bs p x).cs.length = 36 ∧ ∀ i, 5 ≤ i → i < 36 → (pFile bs p x).cs[i]? = argsZ[i]? := by
  unfold pFile; split
  · exact ⟨by rw [pText_len]; exact hn, fun i h5 h => by rw [pText_get (by omega)]; exact hz i h5 h⟩
  · exact ⟨hn, hz⟩
theorem fits_name {bs : List Int} {p : Int} {x : RS} (hn : x.cs.length = 36) (hz : ∀ i, 5 ≤ i → i < 36 → x.cs[i]? = argsZ[i]?) : (pName bs p x).cs.length = 36 ∧ ∀ i, 5 ≤ i → i < 36 → (pName bs p x).cs[i]? = argsZ[i]? := by
  unfold pName; split
  · exact ⟨by rw [pText_len]; exact hn, fun i h5 h => by rw [pText_get (by omega)]; exact hz i h5 h⟩
  · exact ⟨hn, hz⟩
theorem pMore_28 {bs : List Int} {p : Int} {x : RS} (hz : x.cs[28]? = some (.slice none 0 0)) : (pMore bs p x).cs[28]? = some (.slice none 0 0) := by
  unfold pMore
  split
  · split <;> (simp (disch := decide) only [pGets]; exact hz)
  split
  · simp (disch := decide) only [pGets]; exact hz
  split
  · simp (disch := decide) only [pGets]; exact hz
  split
  · split
    · simp (disch := decide) only [pGets]; exact hz
    · split <;> (simp (disch := decide) only [pGets]; exact hz)
  split
  · simp (disch := decide) only [pGets]; exact hz
  split
  · simp (disch := decide) only [pGets]; exact hz
  split
  · simp (disch := decide) only [pGets]; exact hz
  · exact hz
def XQ (Z : Nat → Prop) (H0 h' : Heap) (ki kr : Nat) (bv : Value) (bs : List Int) (x : RS) (kt : Nat) (T : TypeId) (L : List Blk) (ds : List Int) : Prop :=
  ∃ dv, XR Z H0 h' ki kr bv bs x.s x.bad ((kt, x.cs.set 28 dv, T) :: L) ∧ OutB H0 h' dv ds
theorem XQ.of {Z : Nat → Prop} {H0 h' : Heap} {ki kr : Nat} {bv : Value} {bs : List Int} {x : RS} {kt : Nat} {T : TypeId} {L : List Blk} (c : XRS Z H0 h' ki kr bv bs x kt T L) (hd : x.cs[28]? = some (.slice none 0 0)) : XQ Z H0 h' ki kr bv bs x kt T L [] := by
  refine ⟨.slice none 0 0, ?_, OutB.nil⟩
  have e : x.cs.set 28 (.slice none 0 0) = x.cs := by
    obtain ⟨hl, he⟩ := List.getElem?_eq_some_iff.1 hd
    rw [← he]; exact List.set_getElem_self hl
  rw [e]; exact c
def RX (p : Int) (k4 ki kt : Nat) (A : Heap → Prop) : AX → List Value → Heap → Prop := fun ax e h' => ax = .normal ∧ e.length = 115 ∧ sl e 0 = .int .i64 p ∧ sl e 4 = pt k4 0 ∧ sl e 6 = pt ki 0 ∧ sl e 7 = pt kt 0 ∧ A h'
abbrev TRf : TypeId := 75
theorem bRdr {a : Option Addr} {n c : Nat} : aBuild Try.prog 75 [(0, .slice a n c)] = some (.agg #[.slice a n c, .int .i64 0, .int .i64 0]) := by kernel_rfl
theorem xRdr {h : Heap} {a : Option Addr} {n c : Nat} : aBox h 75 (.agg #[.slice a n c, .int .i64 0, .int .i64 0]) = some (pt h.next 0, h.push (.cells [.slice a n c, .int .i64 0, .int .i64 0] TRf false)) := by kernel_rfl
theorem bIn {k : Nat} : aBuild Try.prog 77 [(0, pt k 0)] = some (.agg #[pt k 0, .bool false]) := by kernel_rfl
theorem xIn {h : Heap} {k : Nat} : aBox h 77 (.agg #[pt k 0, .bool false]) = some (pt h.next 0, h.push (.cells [pt k 0, .bool false] TIn false)) := by kernel_rfl
theorem _root_.Go.AM.St.rebase {Z : Nat → Prop} {h0 h : Heap} {L : List Blk} (s : St Z h0 h L) : St Z h h L :=
  ⟨Nat.le_refl _, fun _ _ e _ => e, s.get, s.nodup, s.off, fun j hj => Nat.lt_of_lt_of_le (s.low j hj) s.nx⟩
set_option maxHeartbeats 0 in
theorem readArgsX_am (p : Int) (bv : Value) (bs : List Int) (h : Heap) (hbv : ∃ a n c, bv = .slice a n c) (hr : RowX h 5 bv (bs.map (Value.int .u8))) (hlen : bs.length ≤ 1000000000) (hby : ∀ b ∈ bs, 0 ≤ b ∧ b < 256) :
    Cl Try.prog 11 [.int .i64 p, bv] h fun v h' => ∃ dv, v = .tuple #[.agg ((rdArgs bs p).1.set 28 dv).toArray, .int .i64 (rdArgs bs p).2.2] ∧ OutB h h' dv (rdArgs bs p).2.1 ∧ Same h h' noS := by
  refine Cl.enter Try.func11 rfl 115 Try.ntmps11 (by simp) ?_
  intro env hl ha
  have h0 : sl env 0 = .int .i64 p := ha 0 (by simp)
  have h1 : sl env 1 = bv := ha 1 (by simp)
  clear ha
  have a28 : argsZ.set 28 (.slice none 0 0) = argsZ := rfl
  have Zlow : ∀ j, (fun j => j < h.next) j → j < h.next := fun _ x => x
  have s0 := (St.nil (fun j => j < h.next) h Zlow).push argsZ TA
  repeat (first | (with_reducible refine Wp.st ?_; simp only [wS]) | with_reducible refine Wp.drawS (by decide +kernel) ?_ | simp (disch := (first | (simp only [List.length_set, hl]; omega) | omega | rfl)) only [walkA, walkB, bne_self_eq_false, beq_self_eq_true, Option.map_some, Option.map_none, reduceIte, decide_true, decide_false, Int.reduceLT, Int.reduceLE, Int.reduceMul, Int.reduceAdd, Int.reduceSub, h0, h1, alArgs])
  refine Cl.pure (thereX_am p _) ?_
  cases hp : there p with
  | false =>
    have p1 := s0.stS iArgs rfl rfl argsZ_one (t := TA)
    have p2 := p1.1
    have l1 := p1.2.ldS Try.underlying30 iArgs rfl
    repeat (first | (with_reducible refine Wp.st ?_; simp only [wS]) | with_reducible refine Wp.drawS (by decide +kernel) ?_ | simp (disch := (first | (simp only [List.length_set, hl]; omega) | omega | rfl)) only [walkA, walkB, bne_self_eq_false, beq_self_eq_true, Option.map_some, Option.map_none, reduceIte, decide_true, decide_false, Int.reduceLT, Int.reduceLE, Int.reduceMul, Int.reduceAdd, Int.reduceSub, h0, h1])
    refine Wp.cond_true (by first | ((simp (disch := (first | (simp only [List.length_set, hl]; omega) | omega | rfl)) only [sL, aEval_tmp]); done) | ((simp (disch := (first | (simp only [List.length_set, hl]; omega) | omega | rfl)) only [sL, aEval_tmp]); rfl)) ?_
    repeat (first | (with_reducible refine Wp.st ?_; simp only [wS]) | with_reducible refine Wp.drawS (by decide +kernel) ?_ | simp (disch := (first | (simp only [List.length_set, hl]; omega) | omega | rfl)) only [walkA, walkB, bne_self_eq_false, beq_self_eq_true, Option.map_some, Option.map_none, reduceIte, decide_true, decide_false, Int.reduceLT, Int.reduceLE, Int.reduceMul, Int.reduceAdd, Int.reduceSub, h0, h1, bArgs, p2])
    have er : rdArgs bs p = (argsZ, [], 36) := by unfold rdArgs; rw [if_neg (by simp [hp])]
    rw [aRes_cell (v := .agg argsZ.toArray) Try.results11 (by (simp (disch := (first | (simp only [List.length_set, hl]; omega) | omega | rfl)) only [sL]); exact l1)]
    rw [er]
    refine ⟨.slice none 0 0, by rw [a28]; (simp (disch := (first | (simp only [List.length_set, hl]; omega) | omega | rfl)) only [sL]), OutB.nil, p1.2.nx, fun j e he _ => p1.2.stay j e he (Heap.get_lt he)⟩
  | true =>
    obtain ⟨ab, nb, cb, rfl⟩ := hbv
    have s1 := s0.push [.slice ab nb cb, .int .i64 0, .int .i64 0] TR
    have s2 := s1.push [pt (h.push (.cells argsZ TA false)).next 0, .bool false] TIn
    have s3 := s2.push argsZ TA
    have xr := xRdr (h := h.push (.cells argsZ TA false)) (a := ab) (n := nb) (c := cb)
    have zz : ∀ a n c, Value.slice ab nb cb = .slice (some a) n c → n ≠ 0 → a.block < h.next := row_lt hr.row
    generalize hk4 : h.next = k4 at s0 s1 s2 s3 xr Zlow zz
    generalize hh1 : h.push (.cells argsZ TA false) = h1' at s0 s1 s2 s3 xr
    generalize hkr : h1'.next = kr at s1 s2 s3 xr
    generalize hh2 : h1'.push (.cells [.slice ab nb cb, .int .i64 0, .int .i64 0] TR false) = h2' at s1 s2 s3 xr
    have xi := xIn (h := h2') (k := kr)
    generalize hki : h2'.next = ki at s2 s3 xi
    generalize hh3 : h2'.push (.cells [pt kr 0, .bool false] TIn false) = h3' at s2 s3 xi
    have xa := alArgs (h := h3')
    generalize hkt : h3'.next = kt at s3 xa
    generalize hh4 : h3'.push (.cells argsZ TA false) = h4' at s3 xa
    have c : XRS (fun j => j < k4) h4' h4' ki kr (.slice ab nb cb) bs ⟨(0, 0), false, argsZ⟩ kt TA [(k4, argsZ, TA)] := ⟨s3.rot3.rebase, s3.stayedX hr zz, zz, hlen, Nat.zero_le _, hby⟩
    have keep0 : Same h h4' noS := ⟨s3.nx, fun j e he _ => s3.stay j e he (by rw [← hk4]; exact Heap.get_lt he)⟩
    have hk4' : k4 < h4'.next := s3.lt (x := (k4, argsZ, TA)) (by simp)
    clear s0 s1 s2 s3 hh2 hh3 hh4
    obtain ⟨x0, hx0⟩ : ∃ x : RS, x = ⟨(0, 0), false, argsZ⟩ := ⟨_, rfl⟩
    have hc0 := pArgs_case (bs := bs) hp x0
    rw [← hx0] at c
    have hn : x0.cs.length = 36 := by rw [hx0]; rfl
    have hz : ∀ i, 5 ≤ i → i < 36 → x0.cs[i]? = argsZ[i]? := by rw [hx0]; intro i _ _; rfl
    repeat (first | (with_reducible refine Wp.st ?_; simp only [wS]) | with_reducible refine Wp.drawS (by decide +kernel) ?_ | simp (disch := (first | (simp only [List.length_set, hl]; omega) | omega | rfl)) only [walkA, walkB, bne_self_eq_false, beq_self_eq_true, Option.map_some, Option.map_none, reduceIte, decide_true, decide_false, Int.reduceLT, Int.reduceLE, Int.reduceMul, Int.reduceAdd, Int.reduceSub, h0, h1])
    refine Wp.cond_false (by first | ((simp (disch := (first | (simp only [List.length_set, hl]; omega) | omega | rfl)) only [sL, aEval_tmp]); done) | ((simp (disch := (first | (simp only [List.length_set, hl]; omega) | omega | rfl)) only [sL, aEval_tmp]); rfl)) ?_
    with_reducible refine Wp.skip ?_
    simp (disch := (first | (simp only [List.length_set, hl]; omega) | omega | rfl)) only [walkA, walkB, bne_self_eq_false, beq_self_eq_true, Option.map_some, Option.map_none, reduceIte, decide_true, decide_false, Int.reduceLT, Int.reduceLE, Int.reduceMul, Int.reduceAdd, Int.reduceSub]
    with_reducible refine Wp.seq ?_
    with_reducible refine Wp.region ?_
    simp (disch := (first | (simp only [List.length_set, hl]; omega) | omega | rfl)) only [walkA, walkB, bne_self_eq_false, beq_self_eq_true, Option.map_some, Option.map_none, reduceIte, decide_true, decide_false, Int.reduceLT, Int.reduceLE, Int.reduceMul, Int.reduceAdd, Int.reduceSub, h0, h1, bRdr, xr, bIn, xi]
    with_reducible refine Wp.seq ?_
    with_reducible refine Wp.region ?_
    simp (disch := (first | (simp only [List.length_set, hl]; omega) | omega | rfl)) only [walkA, walkB, bne_self_eq_false, beq_self_eq_true, Option.map_some, Option.map_none, reduceIte, decide_true, decide_false, Int.reduceLT, Int.reduceLE, Int.reduceMul, Int.reduceAdd, Int.reduceSub, h0, h1, xa]
    with_reducible refine Wp.seq ?_
    refine Wp.mono (Q := RX p k4 ki kt fun h' => XRS (fun j => j < k4) h4' h' ki kr (.slice ab nb cb) bs (pFile bs p x0) kt TA [(k4, argsZ, TA)]) ?_ ?_
    · by_cases c1 : 1 ≤ p
      · have d1 : decide (p ≥ 1) = true := decide_eq_true c1
        by_cases c2 : p ≤ 21
        · have d2 : decide (p ≤ 21) = true := decide_eq_true c2
          have e1 : pFile bs p x0 = pText bs 0 64 x0 := by simp [pFile, hasFile, c1, c2]
          rw [e1]
          repeat (first | (with_reducible refine Wp.st ?_; simp only [wS]) | with_reducible refine Wp.drawS (by decide +kernel) ?_ | simp (disch := (first | (simp only [List.length_set, hl]; omega) | omega | rfl)) only [walkA, walkB, bne_self_eq_false, beq_self_eq_true, Option.map_some, Option.map_none, reduceIte, decide_true, decide_false, Int.reduceLT, Int.reduceLE, Int.reduceMul, Int.reduceAdd, Int.reduceSub, h0, d1, d2])
          refine Wp.cond_true (by first | ((simp (disch := (first | (simp only [List.length_set, hl]; omega) | omega | rfl)) only [sL, aEval_tmp]); done) | ((simp (disch := (first | (simp only [List.length_set, hl]; omega) | omega | rfl)) only [sL, aEval_tmp]); rfl)) ?_
          repeat (first | (with_reducible refine Wp.st ?_; simp only [wS]) | with_reducible refine Wp.drawS (by decide +kernel) ?_ | simp (disch := (first | (simp only [List.length_set, hl]; omega) | omega | rfl)) only [walkA, walkB, bne_self_eq_false, beq_self_eq_true, Option.map_some, Option.map_none, reduceIte, decide_true, decide_false, Int.reduceLT, Int.reduceLE, Int.reduceMul, Int.reduceAdd, Int.reduceSub, h0])
          refine (inText_am 64 (by decide) (by decide) c).mono ?_
          intro v ha q
          rw [q.1]
          obtain ⟨hd, p1, c⟩ := XRS.text (o := 0) (x := x0) (by omega) q.2
          clear q
          repeat (first | (with_reducible refine Wp.st ?_; simp only [wS]) | with_reducible refine Wp.drawS (by decide +kernel) ?_ | simp (disch := (first | (simp only [List.length_set, hl]; omega) | omega | rfl)) only [walkA, walkB, bne_self_eq_false, beq_self_eq_true, Option.map_some, Option.map_none, reduceIte, decide_true, decide_false, Int.reduceLT, Int.reduceLE, Int.reduceMul, Int.reduceAdd, Int.reduceSub, h0, faA0, p1])
          exact ⟨rfl, by simp [hl], (by (simp (disch := (first | (simp only [List.length_set, hl]; omega) | omega | rfl)) only [sL, h0])), (by (simp (disch := (first | (simp only [List.length_set, hl]; omega) | omega | rfl)) only [sL])), (by (simp (disch := (first | (simp only [List.length_set, hl]; omega) | omega | rfl)) only [sL])), (by (simp (disch := (first | (simp only [List.length_set, hl]; omega) | omega | rfl)) only [sL])), c⟩
        · have d2 : decide (p ≤ 21) = false := decide_eq_false c2
          have e1 : pFile bs p x0 = x0 := by simp [pFile, hasFile, c2]
          rw [e1]
          repeat (first | (with_reducible refine Wp.st ?_; simp only [wS]) | with_reducible refine Wp.drawS (by decide +kernel) ?_ | simp (disch := (first | (simp only [List.length_set, hl]; omega) | omega | rfl)) only [walkA, walkB, bne_self_eq_false, beq_self_eq_true, Option.map_some, Option.map_none, reduceIte, decide_true, decide_false, Int.reduceLT, Int.reduceLE, Int.reduceMul, Int.reduceAdd, Int.reduceSub, h0, d1, d2])
          refine Wp.cond_false (by first | ((simp (disch := (first | (simp only [List.length_set, hl]; omega) | omega | rfl)) only [sL, aEval_tmp]); done) | ((simp (disch := (first | (simp only [List.length_set, hl]; omega) | omega | rfl)) only [sL, aEval_tmp]); rfl)) ?_
          repeat (first | (with_reducible refine Wp.st ?_; simp only [wS]) | with_reducible refine Wp.drawS (by decide +kernel) ?_ | simp (disch := (first | (simp only [List.length_set, hl]; omega) | omega | rfl)) only [walkA, walkB, bne_self_eq_false, beq_self_eq_true, Option.map_some, Option.map_none, reduceIte, decide_true, decide_false, Int.reduceLT, Int.reduceLE, Int.reduceMul, Int.reduceAdd, Int.reduceSub, h0])
          exact ⟨rfl, by simp [hl], (by (simp (disch := (first | (simp only [List.length_set, hl]; omega) | omega | rfl)) only [sL, h0])), (by (simp (disch := (first | (simp only [List.length_set, hl]; omega) | omega | rfl)) only [sL])), (by (simp (disch := (first | (simp only [List.length_set, hl]; omega) | omega | rfl)) only [sL])), (by (simp (disch := (first | (simp only [List.length_set, hl]; omega) | omega | rfl)) only [sL])), c⟩
      · have d1 : decide (p ≥ 1) = false := decide_eq_false c1
        have e1 : pFile bs p x0 = x0 := by simp [pFile, hasFile, c1]
        rw [e1]
        repeat (first | (with_reducible refine Wp.st ?_; simp only [wS]) | with_reducible refine Wp.drawS (by decide +kernel) ?_ | simp (disch := (first | (simp only [List.length_set, hl]; omega) | omega | rfl)) only [walkA, walkB, bne_self_eq_false, beq_self_eq_true, Option.map_some, Option.map_none, reduceIte, decide_true, decide_false, Int.reduceLT, Int.reduceLE, Int.reduceMul, Int.reduceAdd, Int.reduceSub, h0, d1])
        refine Wp.cond_false (by first | ((simp (disch := (first | (simp only [List.length_set, hl]; omega) | omega | rfl)) only [sL, aEval_tmp]); done) | ((simp (disch := (first | (simp only [List.length_set, hl]; omega) | omega | rfl)) only [sL, aEval_tmp]); rfl)) ?_
        repeat (first | (with_reducible refine Wp.st ?_; simp only [wS]) | with_reducible refine Wp.drawS (by decide +kernel) ?_ | simp (disch := (first | (simp only [List.length_set, hl]; omega) | omega | rfl)) only [walkA, walkB, bne_self_eq_false, beq_self_eq_true, Option.map_some, Option.map_none, reduceIte, decide_true, decide_false, Int.reduceLT, Int.reduceLE, Int.reduceMul, Int.reduceAdd, Int.reduceSub, h0])
        exact ⟨rfl, by simp [hl], (by (simp (disch := (first | (simp only [List.length_set, hl]; omega) | omega | rfl)) only [sL, h0])), (by (simp (disch := (first | (simp only [List.length_set, hl]; omega) | omega | rfl)) only [sL])), (by (simp (disch := (first | (simp only [List.length_set, hl]; omega) | omega | rfl)) only [sL])), (by (simp (disch := (first | (simp only [List.length_set, hl]; omega) | omega | rfl)) only [sL])), c⟩
    have f1 := fits_file (bs := bs) (p := p) hn hz
    generalize pFile bs p x0 = x1 at f1 hc0 ⊢
    clear h0 h1 hl c hn hz xr xi xa hh1 hkr hki hkt
    clear env
    intro ax env h2 q
    obtain ⟨hax, hl, h0, e4, e6, e7, c⟩ := q
    rw [hax]
    simp (disch := (first | (simp only [List.length_set, hl]; omega) | omega | rfl)) only [walkA, walkB, bne_self_eq_false, beq_self_eq_true, Option.map_some, Option.map_none, reduceIte, decide_true, decide_false, Int.reduceLT, Int.reduceLE, Int.reduceMul, Int.reduceAdd, Int.reduceSub]
    with_reducible refine Wp.seq ?_
    refine Wp.mono (Q := RX p k4 ki kt fun h' => XRS (fun j => j < k4) h4' h' ki kr (.slice ab nb cb) bs (pName bs p x1) kt TA [(k4, argsZ, TA)]) ?_ ?_
    · repeat (first | (with_reducible refine Wp.st ?_; simp only [wS]) | with_reducible refine Wp.drawS (by decide +kernel) ?_ | simp (disch := (first | (simp only [List.length_set, hl]; omega) | omega | rfl)) only [walkA, walkB, bne_self_eq_false, beq_self_eq_true, Option.map_some, Option.map_none, reduceIte, decide_true, decide_false, Int.reduceLT, Int.reduceLE, Int.reduceMul, Int.reduceAdd, Int.reduceSub, h0])
      refine Cl.pure (namedX_am p _) ?_
      cases hn : hasName p with
      | true =>
        have e1 : pName bs p x1 = pText bs 2 255 x1 := by simp [pName, hn]
        rw [e1]
        repeat (first | (with_reducible refine Wp.st ?_; simp only [wS]) | with_reducible refine Wp.drawS (by decide +kernel) ?_ | simp (disch := (first | (simp only [List.length_set, hl]; omega) | omega | rfl)) only [walkA, walkB, bne_self_eq_false, beq_self_eq_true, Option.map_some, Option.map_none, reduceIte, decide_true, decide_false, Int.reduceLT, Int.reduceLE, Int.reduceMul, Int.reduceAdd, Int.reduceSub, h0])
        refine Wp.cond_true (by first | ((simp (disch := (first | (simp only [List.length_set, hl]; omega) | omega | rfl)) only [sL, aEval_tmp]); done) | ((simp (disch := (first | (simp only [List.length_set, hl]; omega) | omega | rfl)) only [sL, aEval_tmp]); rfl)) ?_
        repeat (first | (with_reducible refine Wp.st ?_; simp only [wS]) | with_reducible refine Wp.drawS (by decide +kernel) ?_ | simp (disch := (first | (simp only [List.length_set, hl]; omega) | omega | rfl)) only [walkA, walkB, bne_self_eq_false, beq_self_eq_true, Option.map_some, Option.map_none, reduceIte, decide_true, decide_false, Int.reduceLT, Int.reduceLE, Int.reduceMul, Int.reduceAdd, Int.reduceSub, h0, e6])
        refine (inText_am 255 (by decide) (by decide) c).mono ?_
        intro v ha q
        rw [q.1]
        obtain ⟨hd, p1, c⟩ := XRS.text (o := 2) (x := x1) (by omega) q.2
        clear q
        repeat (first | (with_reducible refine Wp.st ?_; simp only [wS]) | with_reducible refine Wp.drawS (by decide +kernel) ?_ | simp (disch := (first | (simp only [List.length_set, hl]; omega) | omega | rfl)) only [walkA, walkB, bne_self_eq_false, beq_self_eq_true, Option.map_some, Option.map_none, reduceIte, decide_true, decide_false, Int.reduceLT, Int.reduceLE, Int.reduceMul, Int.reduceAdd, Int.reduceSub, h0, e7, faA2, p1])
        exact ⟨rfl, by simp [hl], (by (simp (disch := (first | (simp only [List.length_set, hl]; omega) | omega | rfl)) only [sL, h0])), (by (simp (disch := (first | (simp only [List.length_set, hl]; omega) | omega | rfl)) only [sL, e4])), (by (simp (disch := (first | (simp only [List.length_set, hl]; omega) | omega | rfl)) only [sL, e6])), (by (simp (disch := (first | (simp only [List.length_set, hl]; omega) | omega | rfl)) only [sL, e7])), c⟩
      | false =>
        have e1 : pName bs p x1 = x1 := by simp [pName, hn]
        rw [e1]
        repeat (first | (with_reducible refine Wp.st ?_; simp only [wS]) | with_reducible refine Wp.drawS (by decide +kernel) ?_ | simp (disch := (first | (simp only [List.length_set, hl]; omega) | omega | rfl)) only [walkA, walkB, bne_self_eq_false, beq_self_eq_true, Option.map_some, Option.map_none, reduceIte, decide_true, decide_false, Int.reduceLT, Int.reduceLE, Int.reduceMul, Int.reduceAdd, Int.reduceSub, h0])
        refine Wp.cond_false (by first | ((simp (disch := (first | (simp only [List.length_set, hl]; omega) | omega | rfl)) only [sL, aEval_tmp]); done) | ((simp (disch := (first | (simp only [List.length_set, hl]; omega) | omega | rfl)) only [sL, aEval_tmp]); rfl)) ?_
        repeat (first | (with_reducible refine Wp.st ?_; simp only [wS]) | with_reducible refine Wp.drawS (by decide +kernel) ?_ | simp (disch := (first | (simp only [List.length_set, hl]; omega) | omega | rfl)) only [walkA, walkB, bne_self_eq_false, beq_self_eq_true, Option.map_some, Option.map_none, reduceIte, decide_true, decide_false, Int.reduceLT, Int.reduceLE, Int.reduceMul, Int.reduceAdd, Int.reduceSub, h0])
        exact ⟨rfl, by simp [hl], (by (simp (disch := (first | (simp only [List.length_set, hl]; omega) | omega | rfl)) only [sL, h0])), (by (simp (disch := (first | (simp only [List.length_set, hl]; omega) | omega | rfl)) only [sL, e4])), (by (simp (disch := (first | (simp only [List.length_set, hl]; omega) | omega | rfl)) only [sL, e6])), (by (simp (disch := (first | (simp only [List.length_set, hl]; omega) | omega | rfl)) only [sL, e7])), c⟩
    have f2 := fits_name (bs := bs) (p := p) f1.1 f1.2
    generalize pName bs p x1 = x2 at f2 hc0 ⊢
    clear h0 e4 e6 e7 hl c f1 hax
    clear env
    intro ax env h3 q
    obtain ⟨hax, hl, h0, e4, e6, e7, c⟩ := q
    rw [hax]
    simp (disch := (first | (simp only [List.length_set, hl]; omega) | omega | rfl)) only [walkA, walkB, bne_self_eq_false, beq_self_eq_true, Option.map_some, Option.map_none, reduceIte, decide_true, decide_false, Int.reduceLT, Int.reduceLE, Int.reduceMul, Int.reduceAdd, Int.reduceSub]
    with_reducible refine Wp.seq ?_
    refine Wp.mono (Q := RX p k4 ki kt fun h' => XQ (fun j => j < k4) h4' h' ki kr (.slice ab nb cb) bs (pCase bs p x2) kt TA [(k4, argsZ, TA)] (pDataX bs p x2)) ?_ ?_
    · have z28 : x2.cs[28]? = some (.slice none 0 0) := f2.2 28 (by decide) (by decide)
      have hz5 : ∀ i, i < 14 → x2.cs[5 + i]? = sattrZ[i]? := fun i hi => by
        rw [f2.2 (5 + i) (by omega) (by omega)]
        have hi' : i = 0 ∨ i = 1 ∨ i = 2 ∨ i = 3 ∨ i = 4 ∨ i = 5 ∨ i = 6 ∨ i = 7 ∨ i = 8 ∨ i = 9 ∨ i = 10 ∨ i = 11 ∨ i = 12 ∨ i = 13 := by omega
        rcases hi' with rfl | rfl | rfl | rfl | rfl | rfl | rfl | rfl | rfl | rfl | rfl | rfl | rfl | rfl <;> rfl
      have hn2 := f2.1
      clear f2 hc0 hx0 x0 x1 hax
      have hpd : (p = 2 ∨ p = 4 ∨ p = 6 ∨ p = 7 ∨ p = 21 ∨ p = 101 ∨ p = 103) ∨ (p = 0 ∨ p = 1 ∨ p = 3 ∨ p = 5 ∨ p = 8 ∨ p = 9 ∨ p = 10 ∨ p = 11 ∨ p = 12 ∨ p = 13 ∨ p = 14 ∨ p = 15 ∨ p = 16 ∨ p = 17 ∨ p = 18 ∨ p = 19 ∨ p = 20 ∨ p = 100 ∨ p = 102 ∨ p = 104 ∨ p = 105) := by have := there_cases hp; omega
      rcases hpd with hpd | hpd
      · rcases hpd with rfl | rfl | rfl | rfl | rfl | rfl | rfl
        · have z0 := trivial
          repeat (first | (with_reducible refine Wp.st ?_; simp only [wS]) | with_reducible refine Wp.drawS (by decide +kernel) ?_ | simp (disch := (first | (simp only [List.length_set, hl]; omega) | omega | rfl)) only [walkA, walkB, bne_self_eq_false, beq_self_eq_true, Option.map_some, Option.map_none, reduceIte, decide_true, decide_false, Int.reduceLT, Int.reduceLE, Int.reduceMul, Int.reduceAdd, Int.reduceSub, h0, e6, e7, Int.reduceBEq, Int.reduceBNe, Int.reduceGT, Int.reduceGE] | (refine Wp.cond_true ?_ ?_; focus ((simp (disch := (first | (simp only [List.length_set, hl]; omega) | omega | rfl)) only [sL, aEval_tmp]); done)) | (refine Wp.cond_false ?_ ?_; focus ((simp (disch := (first | (simp only [List.length_set, hl]; omega) | omega | rfl)) only [sL, aEval_tmp]); done)))
          refine (inSet_am c).mono ?_
          intro v ha q
          rw [q.1]
          obtain ⟨hd, p1, c⟩ := XRS.set (o := 5) (x := x2) (by (try simp only [pLens]); omega) (zset hz5) q.2
          clear q
          have lr := XR.lr c
          repeat (first | (with_reducible refine Wp.st ?_; simp only [wS]) | with_reducible refine Wp.drawS (by decide +kernel) ?_ | simp (disch := (first | (simp only [List.length_set, hl]; omega) | omega | rfl)) only [walkA, walkB, bne_self_eq_false, beq_self_eq_true, Option.map_some, Option.map_none, reduceIte, decide_true, decide_false, Int.reduceLT, Int.reduceLE, Int.reduceMul, Int.reduceAdd, Int.reduceSub, h0, e6, e7, faA5, p1, faN0, lr, Int.reduceBEq, Int.reduceBNe, Int.reduceGT, Int.reduceGE] | (refine Wp.cond_true ?_ ?_; focus ((simp (disch := (first | (simp only [List.length_set, hl]; omega) | omega | rfl)) only [sL, aEval_tmp]); done)) | (refine Wp.cond_false ?_ ?_; focus ((simp (disch := (first | (simp only [List.length_set, hl]; omega) | omega | rfl)) only [sL, aEval_tmp]); done)))
          refine (xBool_am kr _ _ bs _ _ (XR.rd c)).mono ?_
          intro v ha q
          rw [q.1]
          obtain ⟨hd, p1, c, ld⟩ := XRS.bool (o := 19) (x := (pSet bs 5 x2)) c (by (try simp only [pLens]); omega) q.2.1 q.2.2
          clear q
          have eD : pDataX bs 2 x2 = [] := rfl
          rw [eD]
          have eC : pCase bs 2 x2 = pIf bs 19 (pTime bs 20) (pSet bs 5 x2) := rfl
          rw [eC]
          repeat (first | (with_reducible refine Wp.st ?_; simp only [wS]) | with_reducible refine Wp.drawS (by decide +kernel) ?_ | simp (disch := (first | (simp only [List.length_set, hl]; omega) | omega | rfl)) only [walkA, walkB, bne_self_eq_false, beq_self_eq_true, Option.map_some, Option.map_none, reduceIte, decide_true, decide_false, Int.reduceLT, Int.reduceLE, Int.reduceMul, Int.reduceAdd, Int.reduceSub, h0, e6, e7, faA6, p1, faA6, ld, Int.reduceBEq, Int.reduceBNe, Int.reduceGT, Int.reduceGE] | (refine Wp.cond_true ?_ ?_; focus ((simp (disch := (first | (simp only [List.length_set, hl]; omega) | omega | rfl)) only [sL, aEval_tmp]); done)) | (refine Wp.cond_false ?_ ?_; focus ((simp (disch := (first | (simp only [List.length_set, hl]; omega) | omega | rfl)) only [sL, aEval_tmp]); done)))
          cases hb : (rBool bs (pSet bs 5 x2).s).1 with
          | true =>
            have e1 : pIf bs 19 (pTime bs 20) (pSet bs 5 x2) = pTime bs 20 (pBool bs 19 (pSet bs 5 x2)) := by unfold pIf; rw [if_pos hb]
            rw [e1]
            refine Wp.cond_true (by first | ((simp (disch := (first | (simp only [List.length_set, hl]; omega) | omega | rfl)) only [sL, aEval_tmp, hb]); done) | ((simp (disch := (first | (simp only [List.length_set, hl]; omega) | omega | rfl)) only [sL, aEval_tmp, hb]); rfl)) ?_
            repeat (first | (with_reducible refine Wp.st ?_; simp only [wS]) | with_reducible refine Wp.drawS (by decide +kernel) ?_ | simp (disch := (first | (simp only [List.length_set, hl]; omega) | omega | rfl)) only [walkA, walkB, bne_self_eq_false, beq_self_eq_true, Option.map_some, Option.map_none, reduceIte, decide_true, decide_false, Int.reduceLT, Int.reduceLE, Int.reduceMul, Int.reduceAdd, Int.reduceSub, h0, e6, e7, Int.reduceBEq, Int.reduceBNe, Int.reduceGT, Int.reduceGE] | (refine Wp.cond_true ?_ ?_; focus ((simp (disch := (first | (simp only [List.length_set, hl]; omega) | omega | rfl)) only [sL, aEval_tmp]); done)) | (refine Wp.cond_false ?_ ?_; focus ((simp (disch := (first | (simp only [List.length_set, hl]; omega) | omega | rfl)) only [sL, aEval_tmp]); done)))
            refine (inTime_am c).mono ?_
            intro v ha q
            rw [q.1]
            obtain ⟨hd, p1, c⟩ := XRS.time (o := 20) (x := (pBool bs 19 (pSet bs 5 x2))) (by (try simp only [pLens]); omega) q.2
            clear q
            repeat (first | (with_reducible refine Wp.st ?_; simp only [wS]) | with_reducible refine Wp.drawS (by decide +kernel) ?_ | simp (disch := (first | (simp only [List.length_set, hl]; omega) | omega | rfl)) only [walkA, walkB, bne_self_eq_false, beq_self_eq_true, Option.map_some, Option.map_none, reduceIte, decide_true, decide_false, Int.reduceLT, Int.reduceLE, Int.reduceMul, Int.reduceAdd, Int.reduceSub, h0, e6, e7, faA7, p1, Int.reduceBEq, Int.reduceBNe, Int.reduceGT, Int.reduceGE] | (refine Wp.cond_true ?_ ?_; focus ((simp (disch := (first | (simp only [List.length_set, hl]; omega) | omega | rfl)) only [sL, aEval_tmp]); done)) | (refine Wp.cond_false ?_ ?_; focus ((simp (disch := (first | (simp only [List.length_set, hl]; omega) | omega | rfl)) only [sL, aEval_tmp]); done)))
            exact ⟨rfl, by simp [hl], (by (simp (disch := (first | (simp only [List.length_set, hl]; omega) | omega | rfl)) only [sL, h0])), (by (simp (disch := (first | (simp only [List.length_set, hl]; omega) | omega | rfl)) only [sL, e4])), (by (simp (disch := (first | (simp only [List.length_set, hl]; omega) | omega | rfl)) only [sL, e6])), (by (simp (disch := (first | (simp only [List.length_set, hl]; omega) | omega | rfl)) only [sL, e7])), XQ.of c (by (try simp (disch := decide) only [pGets]); exact z28)⟩
          | false =>
            have e1 : pIf bs 19 (pTime bs 20) (pSet bs 5 x2) = (pBool bs 19 (pSet bs 5 x2)) := by unfold pIf; rw [if_neg (by simp [hb])]
            rw [e1]
            refine Wp.cond_false (by first | ((simp (disch := (first | (simp only [List.length_set, hl]; omega) | omega | rfl)) only [sL, aEval_tmp, hb]); done) | ((simp (disch := (first | (simp only [List.length_set, hl]; omega) | omega | rfl)) only [sL, aEval_tmp, hb]); rfl)) ?_
            repeat (first | (with_reducible refine Wp.st ?_; simp only [wS]) | with_reducible refine Wp.drawS (by decide +kernel) ?_ | simp (disch := (first | (simp only [List.length_set, hl]; omega) | omega | rfl)) only [walkA, walkB, bne_self_eq_false, beq_self_eq_true, Option.map_some, Option.map_none, reduceIte, decide_true, decide_false, Int.reduceLT, Int.reduceLE, Int.reduceMul, Int.reduceAdd, Int.reduceSub, h0, e6, e7, Int.reduceBEq, Int.reduceBNe, Int.reduceGT, Int.reduceGE] | (refine Wp.cond_true ?_ ?_; focus ((simp (disch := (first | (simp only [List.length_set, hl]; omega) | omega | rfl)) only [sL, aEval_tmp]); done)) | (refine Wp.cond_false ?_ ?_; focus ((simp (disch := (first | (simp only [List.length_set, hl]; omega) | omega | rfl)) only [sL, aEval_tmp]); done)))
            exact ⟨rfl, by simp [hl], (by (simp (disch := (first | (simp only [List.length_set, hl]; omega) | omega | rfl)) only [sL, h0])), (by (simp (disch := (first | (simp only [List.length_set, hl]; omega) | omega | rfl)) only [sL, e4])), (by (simp (disch := (first | (simp only [List.length_set, hl]; omega) | omega | rfl)) only [sL, e6])), (by (simp (disch := (first | (simp only [List.length_set, hl]; omega) | omega | rfl)) only [sL, e7])), XQ.of c (by (try simp (disch := decide) only [pGets]); exact z28)⟩
        · have z0 := trivial
          repeat (first | (with_reducible refine Wp.st ?_; simp only [wS]) | with_reducible refine Wp.drawS (by decide +kernel) ?_ | simp (disch := (first | (simp only [List.length_set, hl]; omega) | omega | rfl)) only [walkA, walkB, bne_self_eq_false, beq_self_eq_true, Option.map_some, Option.map_none, reduceIte, decide_true, decide_false, Int.reduceLT, Int.reduceLE, Int.reduceMul, Int.reduceAdd, Int.reduceSub, h0, e6, e7, Int.reduceBEq, Int.reduceBNe, Int.reduceGT, Int.reduceGE] | (refine Wp.cond_true ?_ ?_; focus ((simp (disch := (first | (simp only [List.length_set, hl]; omega) | omega | rfl)) only [sL, aEval_tmp]); done)) | (refine Wp.cond_false ?_ ?_; focus ((simp (disch := (first | (simp only [List.length_set, hl]; omega) | omega | rfl)) only [sL, aEval_tmp]); done)))
          refine (inU32_am c).mono ?_
          intro v ha q
          rw [q.1]
          obtain ⟨hd, p1, c⟩ := XRS.u32 (o := 22) (x := x2) (by (try simp only [pLens]); omega) q.2
          clear q
          have eD : pDataX bs 4 x2 = [] := rfl
          rw [eD]
          have eC : pCase bs 4 x2 = (pU32 bs 22 x2) := rfl
          rw [eC]
          repeat (first | (with_reducible refine Wp.st ?_; simp only [wS]) | with_reducible refine Wp.drawS (by decide +kernel) ?_ | simp (disch := (first | (simp only [List.length_set, hl]; omega) | omega | rfl)) only [walkA, walkB, bne_self_eq_false, beq_self_eq_true, Option.map_some, Option.map_none, reduceIte, decide_true, decide_false, Int.reduceLT, Int.reduceLE, Int.reduceMul, Int.reduceAdd, Int.reduceSub, h0, e6, e7, faA8, p1, Int.reduceBEq, Int.reduceBNe, Int.reduceGT, Int.reduceGE] | (refine Wp.cond_true ?_ ?_; focus ((simp (disch := (first | (simp only [List.length_set, hl]; omega) | omega | rfl)) only [sL, aEval_tmp]); done)) | (refine Wp.cond_false ?_ ?_; focus ((simp (disch := (first | (simp only [List.length_set, hl]; omega) | omega | rfl)) only [sL, aEval_tmp]); done)))
          exact ⟨rfl, by simp [hl], (by (simp (disch := (first | (simp only [List.length_set, hl]; omega) | omega | rfl)) only [sL, h0])), (by (simp (disch := (first | (simp only [List.length_set, hl]; omega) | omega | rfl)) only [sL, e4])), (by (simp (disch := (first | (simp only [List.length_set, hl]; omega) | omega | rfl)) only [sL, e6])), (by (simp (disch := (first | (simp only [List.length_set, hl]; omega) | omega | rfl)) only [sL, e7])), XQ.of c (by (try simp (disch := decide) only [pGets]); exact z28)⟩
        · have z0 := trivial
          have lr := XR.lr c
          repeat (first | (with_reducible refine Wp.st ?_; simp only [wS]) | with_reducible refine Wp.drawS (by decide +kernel) ?_ | simp (disch := (first | (simp only [List.length_set, hl]; omega) | omega | rfl)) only [walkA, walkB, bne_self_eq_false, beq_self_eq_true, Option.map_some, Option.map_none, reduceIte, decide_true, decide_false, Int.reduceLT, Int.reduceLE, Int.reduceMul, Int.reduceAdd, Int.reduceSub, h0, e6, e7, faN0, lr, Int.reduceBEq, Int.reduceBNe, Int.reduceGT, Int.reduceGE] | (refine Wp.cond_true ?_ ?_; focus ((simp (disch := (first | (simp only [List.length_set, hl]; omega) | omega | rfl)) only [sL, aEval_tmp]); done)) | (refine Wp.cond_false ?_ ?_; focus ((simp (disch := (first | (simp only [List.length_set, hl]; omega) | omega | rfl)) only [sL, aEval_tmp]); done)))
          refine (xU64_am kr _ _ bs _ _ (XR.rd c)).mono ?_
          intro v ha q
          rw [q.1]
          obtain ⟨hd, p1, c⟩ := XRS.u64 (o := 23) (x := x2) c (by (try simp only [pLens]); omega) q.2.1 q.2.2
          clear q
          repeat (first | (with_reducible refine Wp.st ?_; simp only [wS]) | with_reducible refine Wp.drawS (by decide +kernel) ?_ | simp (disch := (first | (simp only [List.length_set, hl]; omega) | omega | rfl)) only [walkA, walkB, bne_self_eq_false, beq_self_eq_true, Option.map_some, Option.map_none, reduceIte, decide_true, decide_false, Int.reduceLT, Int.reduceLE, Int.reduceMul, Int.reduceAdd, Int.reduceSub, h0, e6, e7, faA9, p1, Int.reduceBEq, Int.reduceBNe, Int.reduceGT, Int.reduceGE] | (refine Wp.cond_true ?_ ?_; focus ((simp (disch := (first | (simp only [List.length_set, hl]; omega) | omega | rfl)) only [sL, aEval_tmp]); done)) | (refine Wp.cond_false ?_ ?_; focus ((simp (disch := (first | (simp only [List.length_set, hl]; omega) | omega | rfl)) only [sL, aEval_tmp]); done)))
          refine (inU32_am c).mono ?_
          intro v ha q
          rw [q.1]
          obtain ⟨hd, p1, c⟩ := XRS.u32 (o := 24) (x := (pU64 bs 23 x2)) (by (try simp only [pLens]); omega) q.2
          clear q
          have eD : pDataX bs 6 x2 = [] := rfl
          rw [eD]
          have eC : pCase bs 6 x2 = (pU32 bs 24 (pU64 bs 23 x2)) := rfl
          rw [eC]
          repeat (first | (with_reducible refine Wp.st ?_; simp only [wS]) | with_reducible refine Wp.drawS (by decide +kernel) ?_ | simp (disch := (first | (simp only [List.length_set, hl]; omega) | omega | rfl)) only [walkA, walkB, bne_self_eq_false, beq_self_eq_true, Option.map_some, Option.map_none, reduceIte, decide_true, decide_false, Int.reduceLT, Int.reduceLE, Int.reduceMul, Int.reduceAdd, Int.reduceSub, h0, e6, e7, faA10, p1, Int.reduceBEq, Int.reduceBNe, Int.reduceGT, Int.reduceGE] | (refine Wp.cond_true ?_ ?_; focus ((simp (disch := (first | (simp only [List.length_set, hl]; omega) | omega | rfl)) only [sL, aEval_tmp]); done)) | (refine Wp.cond_false ?_ ?_; focus ((simp (disch := (first | (simp only [List.length_set, hl]; omega) | omega | rfl)) only [sL, aEval_tmp]); done)))
          exact ⟨rfl, by simp [hl], (by (simp (disch := (first | (simp only [List.length_set, hl]; omega) | omega | rfl)) only [sL, h0])), (by (simp (disch := (first | (simp only [List.length_set, hl]; omega) | omega | rfl)) only [sL, e4])), (by (simp (disch := (first | (simp only [List.length_set, hl]; omega) | omega | rfl)) only [sL, e6])), (by (simp (disch := (first | (simp only [List.length_set, hl]; omega) | omega | rfl)) only [sL, e7])), XQ.of c (by (try simp (disch := decide) only [pGets]); exact z28)⟩
        · have z0 := trivial
          have lr := XR.lr c
          repeat (first | (with_reducible refine Wp.st ?_; simp only [wS]) | with_reducible refine Wp.drawS (by decide +kernel) ?_ | simp (disch := (first | (simp only [List.length_set, hl]; omega) | omega | rfl)) only [walkA, walkB, bne_self_eq_false, beq_self_eq_true, Option.map_some, Option.map_none, reduceIte, decide_true, decide_false, Int.reduceLT, Int.reduceLE, Int.reduceMul, Int.reduceAdd, Int.reduceSub, h0, e6, e7, faN0, lr, Int.reduceBEq, Int.reduceBNe, Int.reduceGT, Int.reduceGE] | (refine Wp.cond_true ?_ ?_; focus ((simp (disch := (first | (simp only [List.length_set, hl]; omega) | omega | rfl)) only [sL, aEval_tmp]); done)) | (refine Wp.cond_false ?_ ?_; focus ((simp (disch := (first | (simp only [List.length_set, hl]; omega) | omega | rfl)) only [sL, aEval_tmp]); done)))
          refine (xU64_am kr _ _ bs _ _ (XR.rd c)).mono ?_
          intro v ha q
          rw [q.1]
          obtain ⟨hd, p1, c⟩ := XRS.u64 (o := 23) (x := x2) c (by (try simp only [pLens]); omega) q.2.1 q.2.2
          clear q
          repeat (first | (with_reducible refine Wp.st ?_; simp only [wS]) | with_reducible refine Wp.drawS (by decide +kernel) ?_ | simp (disch := (first | (simp only [List.length_set, hl]; omega) | omega | rfl)) only [walkA, walkB, bne_self_eq_false, beq_self_eq_true, Option.map_some, Option.map_none, reduceIte, decide_true, decide_false, Int.reduceLT, Int.reduceLE, Int.reduceMul, Int.reduceAdd, Int.reduceSub, h0, e6, e7, faA9, p1, Int.reduceBEq, Int.reduceBNe, Int.reduceGT, Int.reduceGE] | (refine Wp.cond_true ?_ ?_; focus ((simp (disch := (first | (simp only [List.length_set, hl]; omega) | omega | rfl)) only [sL, aEval_tmp]); done)) | (refine Wp.cond_false ?_ ?_; focus ((simp (disch := (first | (simp only [List.length_set, hl]; omega) | omega | rfl)) only [sL, aEval_tmp]); done)))
          refine (inU32_am c).mono ?_
          intro v ha q
          rw [q.1]
          obtain ⟨hd, p1, c⟩ := XRS.u32 (o := 24) (x := (pU64 bs 23 x2)) (by (try simp only [pLens]); omega) q.2
          clear q
          repeat (first | (with_reducible refine Wp.st ?_; simp only [wS]) | with_reducible refine Wp.drawS (by decide +kernel) ?_ | simp (disch := (first | (simp only [List.length_set, hl]; omega) | omega | rfl)) only [walkA, walkB, bne_self_eq_false, beq_self_eq_true, Option.map_some, Option.map_none, reduceIte, decide_true, decide_false, Int.reduceLT, Int.reduceLE, Int.reduceMul, Int.reduceAdd, Int.reduceSub, h0, e6, e7, faA10, p1, Int.reduceBEq, Int.reduceBNe, Int.reduceGT, Int.reduceGE] | (refine Wp.cond_true ?_ ?_; focus ((simp (disch := (first | (simp only [List.length_set, hl]; omega) | omega | rfl)) only [sL, aEval_tmp]); done)) | (refine Wp.cond_false ?_ ?_; focus ((simp (disch := (first | (simp only [List.length_set, hl]; omega) | omega | rfl)) only [sL, aEval_tmp]); done)))
          refine (inUpto_am 0 2 c).mono ?_
          intro v ha q
          rw [q.1]
          obtain ⟨hd, p1, c, ld⟩ := XRS.num (o := 25) (x := (pU32 bs 24 (pU64 bs 23 x2))) (by (try simp only [pLens]); omega) q.2
          clear q
          have lr := XR.lr c
          repeat (first | (with_reducible refine Wp.st ?_; simp only [wS]) | with_reducible refine Wp.drawS (by decide +kernel) ?_ | simp (disch := (first | (simp only [List.length_set, hl]; omega) | omega | rfl)) only [walkA, walkB, bne_self_eq_false, beq_self_eq_true, Option.map_some, Option.map_none, reduceIte, decide_true, decide_false, Int.reduceLT, Int.reduceLE, Int.reduceMul, Int.reduceAdd, Int.reduceSub, h0, e6, e7, faA11, p1, faN0, lr, Int.reduceBEq, Int.reduceBNe, Int.reduceGT, Int.reduceGE] | (refine Wp.cond_true ?_ ?_; focus ((simp (disch := (first | (simp only [List.length_set, hl]; omega) | omega | rfl)) only [sL, aEval_tmp]); done)) | (refine Wp.cond_false ?_ ?_; focus ((simp (disch := (first | (simp only [List.length_set, hl]; omega) | omega | rfl)) only [sL, aEval_tmp]); done)))
          have hnx := XR.nx c
          refine (xBytes_am 8192 kr _ _ bs _ _ (XR.rd c) (by decide) (by decide)).mono ?_
          intro v ha q
          obtain ⟨hd, p1, c, ob, _⟩ := XRS.row (o := 28) (x := (pNum bs 25 0 2 (pU32 bs 24 (pU64 bs 23 x2)))) c (by (try simp only [pLens]); omega) q.1 q.2.1 q.2.2
          clear q
          repeat (first | (with_reducible refine Wp.st ?_; simp only [wS]) | with_reducible refine Wp.drawS (by decide +kernel) ?_ | simp (disch := (first | (simp only [List.length_set, hl]; omega) | omega | rfl)) only [walkA, walkB, bne_self_eq_false, beq_self_eq_true, Option.map_some, Option.map_none, reduceIte, decide_true, decide_false, Int.reduceLT, Int.reduceLE, Int.reduceMul, Int.reduceAdd, Int.reduceSub, h0, e6, e7, faA14, p1, Int.reduceBEq, Int.reduceBNe, Int.reduceGT, Int.reduceGE] | (refine Wp.cond_true ?_ ?_; focus ((simp (disch := (first | (simp only [List.length_set, hl]; omega) | omega | rfl)) only [sL, aEval_tmp]); done)) | (refine Wp.cond_false ?_ ?_; focus ((simp (disch := (first | (simp only [List.length_set, hl]; omega) | omega | rfl)) only [sL, aEval_tmp]); done)))
          exact ⟨rfl, by simp [hl], (by (simp (disch := (first | (simp only [List.length_set, hl]; omega) | omega | rfl)) only [sL, h0])), (by (simp (disch := (first | (simp only [List.length_set, hl]; omega) | omega | rfl)) only [sL, e4])), (by (simp (disch := (first | (simp only [List.length_set, hl]; omega) | omega | rfl)) only [sL, e6])), (by (simp (disch := (first | (simp only [List.length_set, hl]; omega) | omega | rfl)) only [sL, e7])), v, c, ob.1, fun j hj => Nat.le_trans hnx (ob.2 j hj)⟩
        · have z0 := trivial
          have lr := XR.lr c
          repeat (first | (with_reducible refine Wp.st ?_; simp only [wS]) | with_reducible refine Wp.drawS (by decide +kernel) ?_ | simp (disch := (first | (simp only [List.length_set, hl]; omega) | omega | rfl)) only [walkA, walkB, bne_self_eq_false, beq_self_eq_true, Option.map_some, Option.map_none, reduceIte, decide_true, decide_false, Int.reduceLT, Int.reduceLE, Int.reduceMul, Int.reduceAdd, Int.reduceSub, h0, e6, e7, faN0, lr, Int.reduceBEq, Int.reduceBNe, Int.reduceGT, Int.reduceGE] | (refine Wp.cond_true ?_ ?_; focus ((simp (disch := (first | (simp only [List.length_set, hl]; omega) | omega | rfl)) only [sL, aEval_tmp]); done)) | (refine Wp.cond_false ?_ ?_; focus ((simp (disch := (first | (simp only [List.length_set, hl]; omega) | omega | rfl)) only [sL, aEval_tmp]); done)))
          refine (xU64_am kr _ _ bs _ _ (XR.rd c)).mono ?_
          intro v ha q
          rw [q.1]
          obtain ⟨hd, p1, c⟩ := XRS.u64 (o := 23) (x := x2) c (by (try simp only [pLens]); omega) q.2.1 q.2.2
          clear q
          repeat (first | (with_reducible refine Wp.st ?_; simp only [wS]) | with_reducible refine Wp.drawS (by decide +kernel) ?_ | simp (disch := (first | (simp only [List.length_set, hl]; omega) | omega | rfl)) only [walkA, walkB, bne_self_eq_false, beq_self_eq_true, Option.map_some, Option.map_none, reduceIte, decide_true, decide_false, Int.reduceLT, Int.reduceLE, Int.reduceMul, Int.reduceAdd, Int.reduceSub, h0, e6, e7, faA9, p1, Int.reduceBEq, Int.reduceBNe, Int.reduceGT, Int.reduceGE] | (refine Wp.cond_true ?_ ?_; focus ((simp (disch := (first | (simp only [List.length_set, hl]; omega) | omega | rfl)) only [sL, aEval_tmp]); done)) | (refine Wp.cond_false ?_ ?_; focus ((simp (disch := (first | (simp only [List.length_set, hl]; omega) | omega | rfl)) only [sL, aEval_tmp]); done)))
          refine (inU32_am c).mono ?_
          intro v ha q
          rw [q.1]
          obtain ⟨hd, p1, c⟩ := XRS.u32 (o := 24) (x := (pU64 bs 23 x2)) (by (try simp only [pLens]); omega) q.2
          clear q
          have eD : pDataX bs 21 x2 = [] := rfl
          rw [eD]
          have eC : pCase bs 21 x2 = (pU32 bs 24 (pU64 bs 23 x2)) := rfl
          rw [eC]
          repeat (first | (with_reducible refine Wp.st ?_; simp only [wS]) | with_reducible refine Wp.drawS (by decide +kernel) ?_ | simp (disch := (first | (simp only [List.length_set, hl]; omega) | omega | rfl)) only [walkA, walkB, bne_self_eq_false, beq_self_eq_true, Option.map_some, Option.map_none, reduceIte, decide_true, decide_false, Int.reduceLT, Int.reduceLE, Int.reduceMul, Int.reduceAdd, Int.reduceSub, h0, e6, e7, faA10, p1, Int.reduceBEq, Int.reduceBNe, Int.reduceGT, Int.reduceGE] | (refine Wp.cond_true ?_ ?_; focus ((simp (disch := (first | (simp only [List.length_set, hl]; omega) | omega | rfl)) only [sL, aEval_tmp]); done)) | (refine Wp.cond_false ?_ ?_; focus ((simp (disch := (first | (simp only [List.length_set, hl]; omega) | omega | rfl)) only [sL, aEval_tmp]); done)))
          exact ⟨rfl, by simp [hl], (by (simp (disch := (first | (simp only [List.length_set, hl]; omega) | omega | rfl)) only [sL, h0])), (by (simp (disch := (first | (simp only [List.length_set, hl]; omega) | omega | rfl)) only [sL, e4])), (by (simp (disch := (first | (simp only [List.length_set, hl]; omega) | omega | rfl)) only [sL, e6])), (by (simp (disch := (first | (simp only [List.length_set, hl]; omega) | omega | rfl)) only [sL, e7])), XQ.of c (by (try simp (disch := decide) only [pGets]); exact z28)⟩
        · have z0 := trivial
          repeat (first | (with_reducible refine Wp.st ?_; simp only [wS]) | with_reducible refine Wp.drawS (by decide +kernel) ?_ | simp (disch := (first | (simp only [List.length_set, hl]; omega) | omega | rfl)) only [walkA, walkB, bne_self_eq_false, beq_self_eq_true, Option.map_some, Option.map_none, reduceIte, decide_true, decide_false, Int.reduceLT, Int.reduceLE, Int.reduceMul, Int.reduceAdd, Int.reduceSub, h0, e6, e7, Int.reduceBEq, Int.reduceBNe, Int.reduceGT, Int.reduceGE] | (refine Wp.cond_true ?_ ?_; focus ((simp (disch := (first | (simp only [List.length_set, hl]; omega) | omega | rfl)) only [sL, aEval_tmp]); done)) | (refine Wp.cond_false ?_ ?_; focus ((simp (disch := (first | (simp only [List.length_set, hl]; omega) | omega | rfl)) only [sL, aEval_tmp]); done)))
          refine (inText_am 1024 (by decide) (by decide) c).mono ?_
          intro v ha q
          rw [q.1]
          obtain ⟨hd, p1, c⟩ := XRS.text (o := 4) (x := x2) (by (try simp only [pLens]); omega) q.2
          clear q
          have eD : pDataX bs 101 x2 = [] := rfl
          rw [eD]
          have eC : pCase bs 101 x2 = (pText bs 4 1024 x2) := rfl
          rw [eC]
          repeat (first | (with_reducible refine Wp.st ?_; simp only [wS]) | with_reducible refine Wp.drawS (by decide +kernel) ?_ | simp (disch := (first | (simp only [List.length_set, hl]; omega) | omega | rfl)) only [walkA, walkB, bne_self_eq_false, beq_self_eq_true, Option.map_some, Option.map_none, reduceIte, decide_true, decide_false, Int.reduceLT, Int.reduceLE, Int.reduceMul, Int.reduceAdd, Int.reduceSub, h0, e6, e7, faA4, p1, Int.reduceBEq, Int.reduceBNe, Int.reduceGT, Int.reduceGE] | (refine Wp.cond_true ?_ ?_; focus ((simp (disch := (first | (simp only [List.length_set, hl]; omega) | omega | rfl)) only [sL, aEval_tmp]); done)) | (refine Wp.cond_false ?_ ?_; focus ((simp (disch := (first | (simp only [List.length_set, hl]; omega) | omega | rfl)) only [sL, aEval_tmp]); done)))
          exact ⟨rfl, by simp [hl], (by (simp (disch := (first | (simp only [List.length_set, hl]; omega) | omega | rfl)) only [sL, h0])), (by (simp (disch := (first | (simp only [List.length_set, hl]; omega) | omega | rfl)) only [sL, e4])), (by (simp (disch := (first | (simp only [List.length_set, hl]; omega) | omega | rfl)) only [sL, e6])), (by (simp (disch := (first | (simp only [List.length_set, hl]; omega) | omega | rfl)) only [sL, e7])), XQ.of c (by (try simp (disch := decide) only [pGets]); exact z28)⟩
        · have z0 := trivial
          repeat (first | (with_reducible refine Wp.st ?_; simp only [wS]) | with_reducible refine Wp.drawS (by decide +kernel) ?_ | simp (disch := (first | (simp only [List.length_set, hl]; omega) | omega | rfl)) only [walkA, walkB, bne_self_eq_false, beq_self_eq_true, Option.map_some, Option.map_none, reduceIte, decide_true, decide_false, Int.reduceLT, Int.reduceLE, Int.reduceMul, Int.reduceAdd, Int.reduceSub, h0, e6, e7, Int.reduceBEq, Int.reduceBNe, Int.reduceGT, Int.reduceGE] | (refine Wp.cond_true ?_ ?_; focus ((simp (disch := (first | (simp only [List.length_set, hl]; omega) | omega | rfl)) only [sL, aEval_tmp]); done)) | (refine Wp.cond_false ?_ ?_; focus ((simp (disch := (first | (simp only [List.length_set, hl]; omega) | omega | rfl)) only [sL, aEval_tmp]); done)))
          refine (inText_am 1024 (by decide) (by decide) c).mono ?_
          intro v ha q
          rw [q.1]
          obtain ⟨hd, p1, c⟩ := XRS.text (o := 4) (x := x2) (by (try simp only [pLens]); omega) q.2
          clear q
          have eD : pDataX bs 103 x2 = [] := rfl
          rw [eD]
          have eC : pCase bs 103 x2 = (pText bs 4 1024 x2) := rfl
          rw [eC]
          repeat (first | (with_reducible refine Wp.st ?_; simp only [wS]) | with_reducible refine Wp.drawS (by decide +kernel) ?_ | simp (disch := (first | (simp only [List.length_set, hl]; omega) | omega | rfl)) only [walkA, walkB, bne_self_eq_false, beq_self_eq_true, Option.map_some, Option.map_none, reduceIte, decide_true, decide_false, Int.reduceLT, Int.reduceLE, Int.reduceMul, Int.reduceAdd, Int.reduceSub, h0, e6, e7, faA4, p1, Int.reduceBEq, Int.reduceBNe, Int.reduceGT, Int.reduceGE] | (refine Wp.cond_true ?_ ?_; focus ((simp (disch := (first | (simp only [List.length_set, hl]; omega) | omega | rfl)) only [sL, aEval_tmp]); done)) | (refine Wp.cond_false ?_ ?_; focus ((simp (disch := (first | (simp only [List.length_set, hl]; omega) | omega | rfl)) only [sL, aEval_tmp]); done)))
          exact ⟨rfl, by simp [hl], (by (simp (disch := (first | (simp only [List.length_set, hl]; omega) | omega | rfl)) only [sL, h0])), (by (simp (disch := (first | (simp only [List.length_set, hl]; omega) | omega | rfl)) only [sL, e4])), (by (simp (disch := (first | (simp only [List.length_set, hl]; omega) | omega | rfl)) only [sL, e6])), (by (simp (disch := (first | (simp only [List.length_set, hl]; omega) | omega | rfl)) only [sL, e7])), XQ.of c (by (try simp (disch := decide) only [pGets]); exact z28)⟩
      · have eC : pCase bs p x2 = pMore bs p x2 := by rcases hpd with rfl | rfl | rfl | rfl | rfl | rfl | rfl | rfl | rfl | rfl | rfl | rfl | rfl | rfl | rfl | rfl | rfl | rfl | rfl | rfl | rfl <;> rfl
        have eD : pDataX bs p x2 = [] := by rcases hpd with rfl | rfl | rfl | rfl | rfl | rfl | rfl | rfl | rfl | rfl | rfl | rfl | rfl | rfl | rfl | rfl | rfl | rfl | rfl | rfl | rfl <;> rfl
        rw [eC, eD]
        rcases hpd with rfl | rfl | rfl | rfl | rfl | rfl | rfl | rfl | rfl | rfl | rfl | rfl | rfl | rfl | rfl | rfl | rfl | rfl | rfl | rfl | rfl
        all_goals
          repeat (first | (with_reducible refine Wp.st ?_; simp only [wS]) | with_reducible refine Wp.drawS (by decide +kernel) ?_ | simp (disch := (first | (simp only [List.length_set, hl]; omega) | omega | rfl)) only [walkA, walkB, bne_self_eq_false, beq_self_eq_true, Option.map_some, Option.map_none, reduceIte, decide_true, decide_false, Int.reduceLT, Int.reduceLE, Int.reduceMul, Int.reduceAdd, Int.reduceSub, h0, e6, e7, Int.reduceBEq, Int.reduceBNe, Int.reduceGT, Int.reduceGE] | (refine Wp.cond_true ?_ ?_; focus ((simp (disch := (first | (simp only [List.length_set, hl]; omega) | omega | rfl)) only [sL, aEval_tmp]); done)) | (refine Wp.cond_false ?_ ?_; focus ((simp (disch := (first | (simp only [List.length_set, hl]; omega) | omega | rfl)) only [sL, aEval_tmp]); done)))
          refine (more_am _ hp (by decide) c hn2 hz5).mono ?_
          intro v ha q
          rw [q.1]
          have c := q.2
          clear q
          repeat (first | (with_reducible refine Wp.st ?_; simp only [wS]) | with_reducible refine Wp.drawS (by decide +kernel) ?_ | simp (disch := (first | (simp only [List.length_set, hl]; omega) | omega | rfl)) only [walkA, walkB, bne_self_eq_false, beq_self_eq_true, Option.map_some, Option.map_none, reduceIte, decide_true, decide_false, Int.reduceLT, Int.reduceLE, Int.reduceMul, Int.reduceAdd, Int.reduceSub, h0, e6, e7, Int.reduceBEq, Int.reduceBNe, Int.reduceGT, Int.reduceGE] | (refine Wp.cond_true ?_ ?_; focus ((simp (disch := (first | (simp only [List.length_set, hl]; omega) | omega | rfl)) only [sL, aEval_tmp]); done)) | (refine Wp.cond_false ?_ ?_; focus ((simp (disch := (first | (simp only [List.length_set, hl]; omega) | omega | rfl)) only [sL, aEval_tmp]); done)))
          exact ⟨rfl, by simp [hl], (by (simp (disch := (first | (simp only [List.length_set, hl]; omega) | omega | rfl)) only [sL, h0])), (by (simp (disch := (first | (simp only [List.length_set, hl]; omega) | omega | rfl)) only [sL, e4])), (by (simp (disch := (first | (simp only [List.length_set, hl]; omega) | omega | rfl)) only [sL, e6])), (by (simp (disch := (first | (simp only [List.length_set, hl]; omega) | omega | rfl)) only [sL, e7])), XQ.of c (pMore_28 z28)⟩
    rw [hc0.1, hc0.2]
    clear h0 e4 e6 e7 hl c f2 hax hc0
    clear env
    intro ax env h4 q
    obtain ⟨hax, hl, h0, e4, e6, e7, dv, c, ob⟩ := q
    rw [hax]
    simp (disch := (first | (simp only [List.length_set, hl]; omega) | omega | rfl)) only [walkA, walkB, bne_self_eq_false, beq_self_eq_true, Option.map_some, Option.map_none, reduceIte, decide_true, decide_false, Int.reduceLT, Int.reduceLE, Int.reduceMul, Int.reduceAdd, Int.reduceSub]
    have hlen36 : (pArgs bs p x0).cs.length = 36 := by rw [pArgs_len, hx0]; rfl
    have hone : One (pArgs bs p x0).cs := pArgs_one (by rw [hx0]; exact argsZ_one)
    have er : rdArgs bs p = (let r := pArgs bs p x0; if r.bad = false ∧ r.s.2 = 0 ∧ r.s.1 = bs.length then (r.cs, pData bs p x0, 0) else (argsZ, [], 33)) := by rw [hx0]; unfold rdArgs; rw [if_pos hp]
    rw [er]
    generalize pArgs bs p x0 = r at c hlen36 hone ⊢
    generalize pData bs p x0 = ds at ob ⊢
    obtain ⟨ad, nd, cd, hdv⟩ := buf_slice ob.1
    have hone2 : One (r.cs.set 28 dv) := One.set hone (by rw [hdv]; rfl)
    have hpos := c.pos
    have lr := c.lr
    have lb := c.lb
    have le : aLoad Try.prog h4 3 (.pointer (some ⟨kr, 0 + 2, none⟩)) = some (.int .i64 r.s.2) := by rw [c.st.tail.ld Try.underlying3 (by simp) (by simp)]; rfl
    have st5 := perm4 c.st
    have keepAll : ∀ {h5 : Heap} {L : List Blk}, St (fun j => j < k4) h4' h5 L → Same h h5 noS := fun q => ⟨Nat.le_trans keep0.1 q.nx, fun j e he x => q.stay j e (keep0.2 j e he x) (by rw [← hk4]; exact Heap.get_lt he)⟩
    by_cases hz : r.s.2 = 0
    · have d1 : (r.s.2 != 0) = false := by simpa using hz
      repeat (first | (with_reducible refine Wp.st ?_; simp only [wS]) | with_reducible refine Wp.drawS (by decide +kernel) ?_ | simp (disch := (first | (simp only [List.length_set, hl]; omega) | omega | rfl)) only [walkA, walkB, bne_self_eq_false, beq_self_eq_true, Option.map_some, Option.map_none, reduceIte, decide_true, decide_false, Int.reduceLT, Int.reduceLE, Int.reduceMul, Int.reduceAdd, Int.reduceSub, h0, e6, faN0, lr, faX2, le, d1])
      refine Cl.pure (xLeft_am kr _ _ bs _ _ c.rd) ?_
      by_cases hl2 : r.s.1 = bs.length
      · have d2 : decide (((bs.length : Int) - (r.s.1 : Int)) > 0) = false := decide_eq_false (by omega)
        rcases Bool.eq_false_or_eq_true r.bad with hb | hb
        · rw [hb] at lb
          repeat (first | (with_reducible refine Wp.st ?_; simp only [wS]) | with_reducible refine Wp.drawS (by decide +kernel) ?_ | simp (disch := (first | (simp only [List.length_set, hl]; omega) | omega | rfl)) only [walkA, walkB, bne_self_eq_false, beq_self_eq_true, Option.map_some, Option.map_none, reduceIte, decide_true, decide_false, Int.reduceLT, Int.reduceLE, Int.reduceMul, Int.reduceAdd, Int.reduceSub, h0, e6, faN1, d2, lb])
          refine Wp.cond_true (by first | ((simp (disch := (first | (simp only [List.length_set, hl]; omega) | omega | rfl)) only [sL, aEval_tmp]); done) | ((simp (disch := (first | (simp only [List.length_set, hl]; omega) | omega | rfl)) only [sL, aEval_tmp]); rfl)) ?_
          have p1 := st5.stS iArgs rfl rfl argsZ_one (t := TA)
          have p2 := p1.1
          have l1 := p1.2.ldS Try.underlying30 iArgs rfl (t := TA)
          repeat (first | (with_reducible refine Wp.st ?_; simp only [wS]) | with_reducible refine Wp.drawS (by decide +kernel) ?_ | simp (disch := (first | (simp only [List.length_set, hl]; omega) | omega | rfl)) only [walkA, walkB, bne_self_eq_false, beq_self_eq_true, Option.map_some, Option.map_none, reduceIte, decide_true, decide_false, Int.reduceLT, Int.reduceLE, Int.reduceMul, Int.reduceAdd, Int.reduceSub, h0, e4, bArgs, p2])
          rw [aRes_cell (v := .agg argsZ.toArray) Try.results11 (by (simp (disch := (first | (simp only [List.length_set, hl]; omega) | omega | rfl)) only [sL, e4]); exact l1)]
          have hbad : ¬ (r.bad = false ∧ r.s.2 = 0 ∧ r.s.1 = bs.length) := fun x => by rw [hb] at x; exact absurd x.1 (by decide)
          simp only [if_neg hbad]
          exact ⟨.slice none 0 0, by rw [a28]; (simp (disch := (first | (simp only [List.length_set, hl]; omega) | omega | rfl)) only [sL]), OutB.nil, keepAll p1.2⟩
        · rw [hb] at lb
          repeat (first | (with_reducible refine Wp.st ?_; simp only [wS]) | with_reducible refine Wp.drawS (by decide +kernel) ?_ | simp (disch := (first | (simp only [List.length_set, hl]; omega) | omega | rfl)) only [walkA, walkB, bne_self_eq_false, beq_self_eq_true, Option.map_some, Option.map_none, reduceIte, decide_true, decide_false, Int.reduceLT, Int.reduceLE, Int.reduceMul, Int.reduceAdd, Int.reduceSub, h0, e6, faN1, d2, lb])
          refine Wp.cond_false (by first | ((simp (disch := (first | (simp only [List.length_set, hl]; omega) | omega | rfl)) only [sL, aEval_tmp]); done) | ((simp (disch := (first | (simp only [List.length_set, hl]; omega) | omega | rfl)) only [sL, aEval_tmp]); rfl)) ?_
          have hok : r.bad = false ∧ r.s.2 = 0 ∧ r.s.1 = bs.length := ⟨hb, hz, hl2⟩
          rw [if_pos hok]
          have ld28 := XR.ld c Try.underlying22 (by simp) (by simp) 28
          rw [List.getElem?_set_self (by omega)] at ld28
          have len28 := len_any ob.1.row Try.underlying22
          simp only [List.length_map] at len28
          by_cases hds : ds.length = 0
          · have d3 : (((ds.length : Nat) : Int) == 0) = true := by simpa using hds
            obtain ⟨h5, p3, c3⟩ := c.put' iRow rfl 28 (by rw [List.length_set]; omega) (v := .slice none 0 0) rfl rfl
            rw [List.set_set] at c3
            have st6 := perm4 c3.st
            have hone3 : One (r.cs.set 28 (.slice none 0 0)) := One.set hone rfl
            have l6 := st6.swap.ldS Try.underlying30 iArgs (by rw [List.length_set, hlen36]; rfl) (t := TA)
            have q1 := st6.stS (vs := r.cs.set 28 (.slice none 0 0)) iArgs rfl (by rw [List.length_set, hlen36]; rfl) hone3 (t := TA)
            have p2 := q1.1
            have l1 := q1.2.ldS Try.underlying30 iArgs (by rw [List.length_set, hlen36]; rfl) (t := TA)
            repeat (first | (with_reducible refine Wp.st ?_; simp only [wS]) | with_reducible refine Wp.drawS (by decide +kernel) ?_ | simp (disch := (first | (simp only [List.length_set, hl]; omega) | omega | rfl)) only [walkA, walkB, bne_self_eq_false, beq_self_eq_true, Option.map_some, Option.map_none, reduceIte, decide_true, decide_false, Int.reduceLT, Int.reduceLE, Int.reduceMul, Int.reduceAdd, Int.reduceSub, h0, e7, faA14, ld28, len28, d3])
            refine Wp.cond_true (by first | ((simp (disch := (first | (simp only [List.length_set, hl]; omega) | omega | rfl)) only [sL, aEval_tmp]); done) | ((simp (disch := (first | (simp only [List.length_set, hl]; omega) | omega | rfl)) only [sL, aEval_tmp]); rfl)) ?_
            repeat (first | (with_reducible refine Wp.st ?_; simp only [wS]) | with_reducible refine Wp.drawS (by decide +kernel) ?_ | simp (disch := (first | (simp only [List.length_set, hl]; omega) | omega | rfl)) only [walkA, walkB, bne_self_eq_false, beq_self_eq_true, Option.map_some, Option.map_none, reduceIte, decide_true, decide_false, Int.reduceLT, Int.reduceLE, Int.reduceMul, Int.reduceAdd, Int.reduceSub, h0, e4, e7, faA14, p3, l6, p2])
            rw [aRes_cell (v := .agg (r.cs.set 28 (.slice none 0 0)).toArray) Try.results11 (by (simp (disch := (first | (simp only [List.length_set, hl]; omega) | omega | rfl)) only [sL, e4]); exact l1)]
            have hdn : ds = [] := List.length_eq_zero_iff.1 hds
            rw [hdn]
            exact ⟨.slice none 0 0, by (simp (disch := (first | (simp only [List.length_set, hl]; omega) | omega | rfl)) only [sL]), OutB.nil, keepAll q1.2⟩
          · have d3 : (((ds.length : Nat) : Int) == 0) = false := by simpa using hds
            have l6 := st5.swap.ldS Try.underlying30 iArgs (by rw [List.length_set, hlen36]; rfl) (t := TA)
            have q1 := st5.stS (vs := r.cs.set 28 dv) iArgs rfl (by rw [List.length_set, hlen36]; rfl) hone2 (t := TA)
            have p2 := q1.1
            have l1 := q1.2.ldS Try.underlying30 iArgs (by rw [List.length_set, hlen36]; rfl) (t := TA)
            repeat (first | (with_reducible refine Wp.st ?_; simp only [wS]) | with_reducible refine Wp.drawS (by decide +kernel) ?_ | simp (disch := (first | (simp only [List.length_set, hl]; omega) | omega | rfl)) only [walkA, walkB, bne_self_eq_false, beq_self_eq_true, Option.map_some, Option.map_none, reduceIte, decide_true, decide_false, Int.reduceLT, Int.reduceLE, Int.reduceMul, Int.reduceAdd, Int.reduceSub, h0, e7, faA14, ld28, len28, d3])
            refine Wp.cond_false (by first | ((simp (disch := (first | (simp only [List.length_set, hl]; omega) | omega | rfl)) only [sL, aEval_tmp]); done) | ((simp (disch := (first | (simp only [List.length_set, hl]; omega) | omega | rfl)) only [sL, aEval_tmp]); rfl)) ?_
            repeat (first | (with_reducible refine Wp.st ?_; simp only [wS]) | with_reducible refine Wp.drawS (by decide +kernel) ?_ | simp (disch := (first | (simp only [List.length_set, hl]; omega) | omega | rfl)) only [walkA, walkB, bne_self_eq_false, beq_self_eq_true, Option.map_some, Option.map_none, reduceIte, decide_true, decide_false, Int.reduceLT, Int.reduceLE, Int.reduceMul, Int.reduceAdd, Int.reduceSub, h0, e4, e7, l6, p2])
            rw [aRes_cell (v := .agg (r.cs.set 28 dv).toArray) Try.results11 (by (simp (disch := (first | (simp only [List.length_set, hl]; omega) | omega | rfl)) only [sL, e4]); exact l1)]
            refine ⟨dv, by (simp (disch := (first | (simp only [List.length_set, hl]; omega) | omega | rfl)) only [sL]), ⟨ob.1.same (Same.set1 _ _ _) (fun j hj x => ?_), fun j hj => Nat.le_trans keep0.1 (ob.2 j hj)⟩, keepAll q1.2⟩
            have e : j = k4 := x
            have := ob.2 j hj
            omega
      · have d2 : decide (((bs.length : Int) - (r.s.1 : Int)) > 0) = true := decide_eq_true (by omega)
        repeat (first | (with_reducible refine Wp.st ?_; simp only [wS]) | with_reducible refine Wp.drawS (by decide +kernel) ?_ | simp (disch := (first | (simp only [List.length_set, hl]; omega) | omega | rfl)) only [walkA, walkB, bne_self_eq_false, beq_self_eq_true, Option.map_some, Option.map_none, reduceIte, decide_true, decide_false, Int.reduceLT, Int.reduceLE, Int.reduceMul, Int.reduceAdd, Int.reduceSub, h0, e6, faN1, d2, lb])
        refine Wp.cond_true (by first | ((simp (disch := (first | (simp only [List.length_set, hl]; omega) | omega | rfl)) only [sL, aEval_tmp]); done) | ((simp (disch := (first | (simp only [List.length_set, hl]; omega) | omega | rfl)) only [sL, aEval_tmp]); rfl)) ?_
        have p1 := st5.stS iArgs rfl rfl argsZ_one (t := TA)
        have p2 := p1.1
        have l1 := p1.2.ldS Try.underlying30 iArgs rfl (t := TA)
        repeat (first | (with_reducible refine Wp.st ?_; simp only [wS]) | with_reducible refine Wp.drawS (by decide +kernel) ?_ | simp (disch := (first | (simp only [List.length_set, hl]; omega) | omega | rfl)) only [walkA, walkB, bne_self_eq_false, beq_self_eq_true, Option.map_some, Option.map_none, reduceIte, decide_true, decide_false, Int.reduceLT, Int.reduceLE, Int.reduceMul, Int.reduceAdd, Int.reduceSub, h0, e4, bArgs, p2])
        rw [aRes_cell (v := .agg argsZ.toArray) Try.results11 (by (simp (disch := (first | (simp only [List.length_set, hl]; omega) | omega | rfl)) only [sL, e4]); exact l1)]
        have hbad : ¬ (r.bad = false ∧ r.s.2 = 0 ∧ r.s.1 = bs.length) := fun x => hl2 x.2.2
        simp only [if_neg hbad]
        exact ⟨.slice none 0 0, by rw [a28]; (simp (disch := (first | (simp only [List.length_set, hl]; omega) | omega | rfl)) only [sL]), OutB.nil, keepAll p1.2⟩
    · have d1 : (r.s.2 != 0) = true := by simpa using hz
      repeat (first | (with_reducible refine Wp.st ?_; simp only [wS]) | with_reducible refine Wp.drawS (by decide +kernel) ?_ | simp (disch := (first | (simp only [List.length_set, hl]; omega) | omega | rfl)) only [walkA, walkB, bne_self_eq_false, beq_self_eq_true, Option.map_some, Option.map_none, reduceIte, decide_true, decide_false, Int.reduceLT, Int.reduceLE, Int.reduceMul, Int.reduceAdd, Int.reduceSub, h0, e6, faN0, lr, faX2, le, d1])
      refine Wp.cond_true (by first | ((simp (disch := (first | (simp only [List.length_set, hl]; omega) | omega | rfl)) only [sL, aEval_tmp]); done) | ((simp (disch := (first | (simp only [List.length_set, hl]; omega) | omega | rfl)) only [sL, aEval_tmp]); rfl)) ?_
      have p1 := st5.stS iArgs rfl rfl argsZ_one (t := TA)
      have p2 := p1.1
      have l1 := p1.2.ldS Try.underlying30 iArgs rfl (t := TA)
      repeat (first | (with_reducible refine Wp.st ?_; simp only [wS]) | with_reducible refine Wp.drawS (by decide +kernel) ?_ | simp (disch := (first | (simp only [List.length_set, hl]; omega) | omega | rfl)) only [walkA, walkB, bne_self_eq_false, beq_self_eq_true, Option.map_some, Option.map_none, reduceIte, decide_true, decide_false, Int.reduceLT, Int.reduceLE, Int.reduceMul, Int.reduceAdd, Int.reduceSub, h0, e4, bArgs, p2])
      rw [aRes_cell (v := .agg argsZ.toArray) Try.results11 (by (simp (disch := (first | (simp only [List.length_set, hl]; omega) | omega | rfl)) only [sL, e4]); exact l1)]
      have hbad : ¬ (r.bad = false ∧ r.s.2 = 0 ∧ r.s.1 = bs.length) := fun x => hz x.2.1
      simp only [if_neg hbad]
      exact ⟨.slice none 0 0, by rw [a28]; (simp (disch := (first | (simp only [List.length_set, hl]; omega) | omega | rfl)) only [sL]), OutB.nil, keepAll p1.2⟩
end Go.Proofs.Ytanknjpcgceccaa

namespace Go.Proofs.Ytanknjpcgceccaa
open Go Go.AM
set_option linter.unusedSimpArgs false
set_option maxRecDepth 100000
attribute [local irreducible] WOps WV WH WSt WNil WPick WGd
structure WB (Z : Nat → Prop) (H0 h : Heap) (kw : Nat) (TW : TypeId) (wv : Value) (bs : List Value) (L : List Blk) : Prop where
  st : St Z H0 h ((kw, [wv], TW) :: L)
  buf : Buf h 5 wv bs
  off : ∀ j, bufBlk wv j → j ≠ kw ∧ ¬ Z j ∧ ∀ x ∈ L, x.1 ≠ j
  one : bs.all Value.oneCell' = true
section
variable {Z : Nat → Prop} {H0 h h' : Heap} {kw k o : Nat} {TW T : TypeId} {wv v' : Value} {bs bs' cs cs' : List Value} {L L' : List Blk} {x : Blk}
theorem WB.wr (c : WB Z H0 h kw TW wv bs L) : WR h kw TW wv bs := ⟨c.st.hd, c.buf, fun hh => (c.off kw hh).1 rfl⟩
theorem WB.lt (c : WB Z H0 h kw TW wv bs L) : ∀ j, bufBlk wv j → j < h.next := by
  rintro j ⟨a, n, d, e⟩
  exact c.buf.blk e
theorem WB.write (c : WB Z H0 h kw TW wv bs L) (hw : WR h' kw TW v' bs') (hs : Same h h' (own wv kw)) (hf : ∀ j, own v' kw j → own wv kw j ∨ h.next ≤ j) (h1 : bs'.all Value.oneCell' = true) : WB Z H0 h' kw TW v' bs' L := by
  have hL : ∀ x ∈ L, ¬ own wv kw x.1 := fun x hx hh => hh.elim (fun e => c.st.ne x hx e) (fun e => (c.off _ e).2.2 x hx rfl)
  have hZ : ∀ j, Z j → ¬ own wv kw j := fun j hj hh => hh.elim (fun e => c.st.off (kw, [wv], TW) (by simp) (by rw [← e]; exact hj)) (fun e => (c.off _ e).2.1 hj)
  have s1 : St Z H0 h' L := c.st.tail.keep hs hL hZ
  refine ⟨⟨s1.nx, s1.stay, fun x hx => ?_, c.st.nodup, fun x hx => ?_, s1.low⟩, hw.2.1, fun j hj => ?_, h1⟩
  · rcases List.mem_cons.1 hx with rfl | hx
    · exact hw.1
    · exact s1.get x hx
  · rcases List.mem_cons.1 hx with rfl | hx
    · exact c.st.off (kw, [wv], TW) (by simp)
    · exact s1.off x hx
  · rcases hf j (.inr hj) with hh | hn
    · rcases hh with rfl | hb
      · exact absurd hj hw.2.2
      · exact c.off j hb
    · refine ⟨fun e => ?_, fun z => ?_, fun x hx e => ?_⟩
      · have : kw < h.next := Heap.get_lt c.st.hd
        omega
      · have := c.st.low j z
        have := c.st.nx
        omega
      · have := c.st.lt (List.mem_cons_of_mem _ hx)
        omega
theorem WB.perm (c : WB Z H0 h kw TW wv bs L) (p : L.Perm L') : WB Z H0 h kw TW wv bs L' :=
  ⟨c.st.perm (p.cons _), c.buf, fun j hj => ⟨(c.off j hj).1, (c.off j hj).2.1, fun x hx => (c.off j hj).2.2 x (p.mem_iff.2 hx)⟩, c.one⟩
theorem WB.drop (c : WB Z H0 h kw TW wv bs (x :: L)) : WB Z H0 h kw TW wv bs L :=
  ⟨c.st.swap.tail, c.buf, fun j hj => ⟨(c.off j hj).1, (c.off j hj).2.1, fun y hy => (c.off j hj).2.2 y (List.mem_cons_of_mem _ hy)⟩, c.one⟩
theorem WB.upd (c : WB Z H0 h kw TW wv bs ((k, cs, T) :: L)) (hs : Same h h' (onlyS k)) (hg : h'.get k = some (.cells cs' T false)) : WB Z H0 h' kw TW wv bs ((k, cs', T) :: L) :=
  ⟨(c.st.swap.upd hs hg).swap, c.buf.same hs (fun j hj e => (c.off j hj).2.2 (k, cs, T) (by simp) (by have e : j = k := e; exact e.symm)), fun j hj => ⟨(c.off j hj).1, (c.off j hj).2.1, fun y hy => by
    rcases List.mem_cons.1 hy with rfl | hy
    · exact (c.off j hj).2.2 (k, cs, T) (by simp)
    · exact (c.off j hj).2.2 y (List.mem_cons_of_mem _ hy)⟩, c.one⟩
theorem WB.alloc (c : WB Z H0 h kw TW wv bs L) (cs : List Value) (T : TypeId) : WB Z H0 (h.push (.cells cs T false)) kw TW wv bs ((h.next, cs, T) :: L) :=
  ⟨(c.st.push cs T).swap, c.buf.same (Same.push _ _ noS) (fun _ _ x => x), fun j hj => ⟨(c.off j hj).1, (c.off j hj).2.1, fun y hy => by
    rcases List.mem_cons.1 hy with rfl | hy
    · have := c.lt j hj
      simp only; omega
    · exact (c.off j hj).2.2 y hy⟩, c.one⟩
theorem WB.ld {t : TypeId} {d : TypeDesc} (c : WB Z H0 h kw TW wv bs ((k, cs, T) :: L)) (hu : Try.prog.underlying t = some d) (h1 : ∀ fs, d ≠ .struct fs) (h2 : ∀ n e, d ≠ .array n e) (o : Nat) : aLoad Try.prog h t (pt k o) = cs[o]? :=
  c.st.swap.ld hu h1 h2 o
theorem WB.put {t : TypeId} {i : TypeInfo} {v : Value} (c : WB Z H0 h kw TW wv bs ((k, cs, T) :: L)) (hi : Try.prog.info? t = some i) (hs : i.size = 1) (o : Nat) (ho : o < cs.length) (hv : v.cells = #[v]) (h1 : v.oneCell' = true) :
    ∃ h2, aStore Try.prog h t (pt k o) v = some h2 ∧ WB Z H0 h2 kw TW wv bs ((k, cs.set o v, T) :: L) := by
  have q := c.st.swap.st (P := Try.prog) hi hs o ho hv h1
  exact ⟨_, q.1, c.upd (Same.set1 h k _) (Heap.get_set_eq c.st.swap.hd)⟩
theorem WB.via (c : WB Z H0 h kw TW wv bs L) : St (fun j => Z j ∨ bufBlk wv j) h h ((kw, [wv], TW) :: L) :=
  ⟨Nat.le_refl _, fun _ _ e _ => e, c.st.get, c.st.nodup, fun x hx hh => hh.elim (c.st.off x hx) (fun hb => by
    rcases List.mem_cons.1 hx with rfl | hx
    · exact (c.off _ hb).1 rfl
    · exact (c.off _ hb).2.2 x hx rfl), fun j hh => hh.elim (fun z => Nat.lt_of_lt_of_le (c.st.low j z) c.st.nx) (c.lt j)⟩
theorem WB.back (c : WB Z H0 h kw TW wv bs L) (s : St (fun j => Z j ∨ bufBlk wv j) h h' ((kw, [wv], TW) :: L')) : WB Z H0 h' kw TW wv bs L' :=
  ⟨⟨Nat.le_trans c.st.nx s.nx, fun j e he z => s.stay j e (c.st.stay j e he z) (.inl z), s.get, s.nodup, fun x hx z => s.off x hx (.inl z), c.st.low⟩,
   c.buf.same (S := fun j => ¬ (Z j ∨ bufBlk wv j)) ⟨s.nx, fun j e he hn => s.stay j e he (Classical.not_not.1 hn)⟩ (fun j hj hn => hn (.inr hj)),
   fun j hj => ⟨(c.off j hj).1, (c.off j hj).2.1, fun x hx e => s.off x (List.mem_cons_of_mem _ hx) (.inr (e ▸ hj))⟩, c.one⟩
end
abbrev TWp : TypeId := 134
abbrev CW (Z : Nat → Prop) (H0 h : Heap) (kc kw : Nat) (wv : Value) (bs : List Value) (bad : Bool) (L : List Blk) : Prop := WB Z H0 h kw TWp wv bs ((kc, [.pointer none, pt kw 0, .bool bad], TC) :: L)
section
variable {Z : Nat → Prop} {H0 h h' : Heap} {kc kw kt o : Nat} {wv v' : Value} {bs bs' cs : List Value} {L : List Blk} {x y : Blk} {bad : Bool} {T : TypeId}
theorem CW.lw (c : CW Z H0 h kc kw wv bs bad L) : aLoad Try.prog h 67 (.pointer (some ⟨kc, 0 + 1, none⟩)) = some (pt kw 0) := by rw [WB.ld c Try.underlying67 (by simp) (by simp)]; rfl
theorem CW.lb (c : CW Z H0 h kc kw wv bs bad L) : aLoad Try.prog h 4 (.pointer (some ⟨kc, 0 + 2, none⟩)) = some (.bool bad) := by rw [WB.ld c Try.underlying4 (by simp) (by simp)]; rfl
theorem CW.ld {t : TypeId} {d : TypeDesc} (c : CW Z H0 h kc kw wv bs bad ((kt, cs, T) :: L)) (hu : Try.prog.underlying t = some d) (h1 : ∀ fs, d ≠ .struct fs) (h2 : ∀ n e, d ≠ .array n e) (o : Nat) : aLoad Try.prog h t (pt kt o) = cs[o]? :=
  (WB.perm c (.swap _ _ _)).ld hu h1 h2 o
theorem CW.put {t : TypeId} {i : TypeInfo} {v : Value} (c : CW Z H0 h kc kw wv bs bad ((kt, cs, T) :: L)) (hi : Try.prog.info? t = some i) (hs : i.size = 1) (o : Nat) (ho : o < cs.length) (hv : v.cells = #[v]) (h1 : v.oneCell' = true) :
    ∃ h2, aStore Try.prog h t (pt kt o) v = some h2 ∧ CW Z H0 h2 kc kw wv bs bad ((kt, cs.set o v, T) :: L) := by
  obtain ⟨h2, p, q⟩ := (WB.perm c (.swap _ _ _)).put hi hs o ho hv h1
  exact ⟨h2, p, q.perm (.swap _ _ _)⟩
theorem CW.alloc (c : CW Z H0 h kc kw wv bs bad L) (cs : List Value) (T : TypeId) : CW Z H0 (h.push (.cells cs T false)) kc kw wv bs bad ((h.next, cs, T) :: L) := (WB.alloc c cs T).perm (.swap _ _ _)
theorem CW.drop (c : CW Z H0 h kc kw wv bs bad (x :: L)) : CW Z H0 h kc kw wv bs bad L := (WB.perm c (.swap _ _ _)).drop
theorem CW.swap (c : CW Z H0 h kc kw wv bs bad (x :: y :: L)) : CW Z H0 h kc kw wv bs bad (y :: x :: L) := WB.perm c ((List.Perm.swap _ _ _).cons _)
theorem mustW_am (is : Bool) (c : CW Z H0 h kc kw wv bs bad L) : Cl Try.prog 70 [pt kc 0, .bool is] h fun v h' => v = .tuple #[] ∧ CW Z H0 h' kc kw wv bs (bad || !is) L :=
  (must_am is bad _ _ _ h h kc _ (WB.via c).swap).mono fun v h' q => ⟨q.1, WB.back c q.2.swap⟩
theorem CW.done (c : CW Z H0 h kc kw wv bs bad L) {r : Value} (q : WQ h kw TWp wv bs' r h') (h1 : bs'.all Value.oneCell' = true) : r = .tuple #[] ∧ ∃ v', CW Z H0 h' kc kw v' bs' bad L := by
  obtain ⟨hr, v', hw, hs, hf⟩ := q
  exact ⟨hr, v', WB.write c hw hs hf h1⟩
end
end Go.Proofs.Ytanknjpcgceccaa

namespace Go.Proofs.Ytanknjpcgceccaa
open Go Go.AM
set_option linter.unusedSimpArgs false
set_option maxRecDepth 100000
attribute [local irreducible] WOps WV WH WSt WNil WPick WGd
theorem WD1_buildSlice {P : Program} {ops : Array Oper} {Q : List Rec → List Value → Heap → Prop} {l : List Oper} {acc : List Rec} {env : List Value} {h : Heap} {d : Option Tmp} {ty : TypeId} {ps : String} {af : Array Edge} {g : Option (Nat × Bool)} {t : TypeId} {n : Nat} {p : Array (Nat × Operand)} :
    WD1 P ops Q ⟨d, .buildSlice t n p, ty, ps, af, g⟩ l acc env h = DH P ops Q l acc ⟨d, .buildSlice t n p, ty, ps, af, g⟩ env h (aBuildSlice P h t n (p.toList.map fun q => (q.1, aEval env q.2))) := (WD1_op rfl)
section
variable {h : Heap}
theorem bsB {b : Bool} : aBuildSlice Try.prog h 161 1 [(0, .bool b)] = some (.slice (some ⟨h.next, 0, none⟩) 1 1, h.push (.cells [.bool b] 4 false)) := by kernel_rfl
theorem bs32 {n : Int} : aBuildSlice Try.prog h 148 1 [(0, .int .u32 n)] = some (.slice (some ⟨h.next, 0, none⟩) 1 1, h.push (.cells [.int .u32 n] 23 false)) := by kernel_rfl
theorem bs64 {n : Int} : aBuildSlice Try.prog h 164 1 [(0, .int .u64 n)] = some (.slice (some ⟨h.next, 0, none⟩) 1 1, h.push (.cells [.int .u64 n] 24 false)) := by kernel_rfl
end
theorem veqB_ptr (a : Option Addr) : veqB 6 (.pointer a) (.pointer a) = true := by simp [veqB]
theorem WB.offRow {Z : Nat → Prop} {H0 h : Heap} {kw kl : Nat} {TW T : TypeId} {wv : Value} {bs vs : List Value} {L : List Blk} {n : Nat} (c : WB Z H0 h kw TW wv bs L) (hx : (kl, vs, T) ∈ L) (hn : n = vs.length) : Off h wv kw (.slice (some ⟨kl, 0, none⟩) n n) vs := by
  subst hn
  have hg := c.st.get (kl, vs, T) (List.mem_cons_of_mem _ hx)
  refine ⟨by have := Row.whole (cap := vs.length) hg; simpa using this, fun a m d e _ => ?_⟩
  injection e with e1
  injection e1 with e1
  subst e1
  exact ⟨fun hh => hh.elim (fun e => c.st.ne _ hx e) (fun hb => (c.off _ hb).2.2 _ hx rfl), Heap.get_lt hg⟩
theorem flatLen (n : Nat) (hn : n ≤ 8) : ∀ ps : List (Nat × Int), (ps.flatMap (fun p => beTo p.2 n)).length ≤ 8 * ps.length
  | [] => by simp
  | p :: ps => by
    have := flatLen n hn ps
    rw [List.flatMap_cons, List.length_append, List.length_cons, beTo_length]
    omega
section
variable (Z : Nat → Prop) (H0 h : Heap) (kc kw : Nat) (wv : Value) (bs : List Value) (bad : Bool) (L : List Blk) (kt : Nat) (cs : List Value) (T : TypeId)
set_option maxHeartbeats 1000000 in
theorem truthW_am (o : Nat) (b : Bool) (c : CW Z H0 h kc kw wv bs bad ((kt, cs, T) :: L)) (hb : cs[o]? = some (.bool b)) (hlen : bs.length ≤ 700000000) :
    Cl Try.prog 53 [pt kc 0, pt kt o] h fun v h' => v = .bool b ∧ ∃ v', CW Z H0 h' kc kw v' (bs ++ beTo (if b = true then 1 else 0) 4) bad ((kt, cs, T) :: L) := by
  refine Cl.enter Try.func53 rfl 29 Try.ntmps53 (by simp) ?_
  intro env hl ha
  have h0 : sl env 0 = pt kc 0 := ha 0 (by simp)
  have h1 : sl env 1 = pt kt o := ha 1 (by simp)
  clear ha
  have lw := c.lw
  have ld := CW.ld c Try.underlying4 (by simp) (by simp) o
  rw [hb] at ld
  repeat (first | (with_reducible refine Wp.st ?_; simp only [wS]) | with_reducible refine Wp.drawS (by decide +kernel) ?_ | simp (disch := (first | (simp only [List.length_set, hl]; omega) | omega | rfl)) only [walkA, walkB, bne_self_eq_false, beq_self_eq_true, Option.map_some, Option.map_none, reduceIte, decide_true, decide_false, Int.reduceLT, Int.reduceLE, Int.reduceMul, Int.reduceAdd, Int.reduceSub, h0, h1, faC1, lw, pw_np])
  refine Wp.cond_true (by first | ((simp (disch := (first | (simp only [List.length_set, hl]; omega) | omega | rfl)) only [sL, aEval_tmp]); done) | ((simp (disch := (first | (simp only [List.length_set, hl]; omega) | omega | rfl)) only [sL, aEval_tmp]); rfl)) ?_
  refine Wp.drawU [(3, 7)] (by kernel_rfl) ?_
  repeat (simp (disch := (first | (simp only [List.length_set, hl]; omega) | omega | rfl)) only [WD_none, WD_guard, WDG_tt, WDG_ff, WDG_tf, WDG_ft, gval_some, nthD_zero, nthD_succ, WD1_move, WD1_assign, WD1_call, WD1_load, WD1_convert, WD1_fieldAddr, WD1_field, WD1_indexAddr, WD1_extract, WD1_binOp, WD1_unOp, WD1_builtin, WD1_slice2, WD1_slice1, WD1_nilCheck, WD1_pick, DPick_bool, DNil_ptr, DH_some, WDraw_nil, withH_val, aEval_tmp, aEval_const, aPut_some, aPut_none, List.length_set, List.map_cons, List.map_nil, sl_eq, sl_ne, cond_true, cond_false, bin_add, bin_sub, bin_eql, bin_neq, bin_lss, bin_leq, bin_gtr, bin_geq, bne_self_eq_false, beq_self_eq_true, un_not, Bool.not_true, Bool.not_false, wrap_i64, h0, h1, faC1, lw, ld, WD1_buildSlice, bsB])
  have c1 := CW.alloc c [.bool b] 4
  have of1 : Off _ wv kw (.slice (some ⟨h.next, 0, none⟩) 1 1) ([b].map Value.bool) := WB.offRow (T := 4) c1 (by simp) rfl
  have lw1 := c1.lw
  have ne : aLoad Try.prog h 4 (pt kt o) = some (.bool b) := ld
  refine (bool_am _ [b] kw wv bs _ of1 c1.wr c.one (by simp; omega)).mono ?_
  intro v hd q
  obtain ⟨hr, v', c2⟩ := CW.done c1 q (all_append' c.one (flat_all' _ _ (fun _ _ => beTo_all _ _)))
  rw [hr]
  have ld2 := CW.ld (CW.drop c2) Try.underlying4 (by simp) (by simp) o
  rw [hb] at ld2
  repeat (simp (disch := (first | (simp only [List.length_set, hl]; omega) | omega | rfl)) only [WD_none, WD_guard, WDG_tt, WDG_ff, WDG_tf, WDG_ft, gval_some, nthD_zero, nthD_succ, WD1_move, WD1_assign, WD1_call, WD1_load, WD1_convert, WD1_fieldAddr, WD1_field, WD1_indexAddr, WD1_extract, WD1_binOp, WD1_unOp, WD1_builtin, WD1_slice2, WD1_slice1, WD1_nilCheck, WD1_pick, DPick_bool, DNil_ptr, DH_some, WDraw_nil, withH_val, aEval_tmp, aEval_const, aPut_some, aPut_none, List.length_set, List.map_cons, List.map_nil, sl_eq, sl_ne, cond_true, cond_false, bin_add, bin_sub, bin_eql, bin_neq, bin_lss, bin_leq, bin_gtr, bin_geq, bne_self_eq_false, beq_self_eq_true, un_not, Bool.not_true, Bool.not_false, wrap_i64, h0, h1])
  refine ⟨?_, ?_⟩
  · simp only [okPair, List.reverse_cons, List.reverse_nil, List.nil_append, List.cons_append, List.getElem?_cons_zero, List.getElem?_cons_succ, List.mem_cons, List.not_mem_nil, or_false, forall_eq_or_imp, forall_eq, Nat.blt_eq, blt_true, blt_false, cond_true, cond_false, Bool.true_eq_false, Bool.false_eq_true, false_or]
    refine sameAt_load ?_ (veqB_ptr _)
    (simp (disch := (first | (simp only [List.length_set, hl]; omega) | omega | rfl)) only [sL, aEval_tmp])
    exact lw1
  repeat (first | (with_reducible refine Wp.st ?_; simp only [wS]) | with_reducible refine Wp.drawS (by decide +kernel) ?_ | simp (disch := (first | (simp only [List.length_set, hl]; omega) | omega | rfl)) only [walkA, walkB, bne_self_eq_false, beq_self_eq_true, Option.map_some, Option.map_none, reduceIte, decide_true, decide_false, Int.reduceLT, Int.reduceLE, Int.reduceMul, Int.reduceAdd, Int.reduceSub, h0, h1, ld2])
  simp (disch := (first | (simp only [List.length_set, hl]; omega) | omega | rfl)) only [aRes_one Try.results53, sL]
  exact ⟨trivial, v', by simpa using CW.drop c2⟩
set_option maxHeartbeats 1000000 in
theorem u32W_am (kl : Nat) (Tp : TypeId) (ps : List (Nat × Int)) (c : CW Z H0 h kc kw wv bs bad ((kt, cs, T) :: (kl, ps.map (fun p => pt kt p.1), Tp) :: L)) (hp : ∀ p ∈ ps, cs[p.1]? = some (.int .u32 p.2) ∧ 0 ≤ p.2 ∧ p.2 < 4294967296) (hn : ps.length ≤ 1000) (hlen : bs.length ≤ 700000000) :
    Cl Try.prog 55 [pt kc 0, .slice (some ⟨kl, 0, none⟩) ps.length ps.length] h fun v h' => v = .tuple #[] ∧ ∃ v', CW Z H0 h' kc kw v' (bs ++ ps.flatMap (fun p => beTo p.2 4)) bad ((kt, cs, T) :: L) := by
  refine Cl.enter Try.func55 rfl 34 Try.ntmps55 (by simp) ?_
  intro env hl ha
  have h0 : sl env 0 = pt kc 0 := ha 0 (by simp)
  have h1 : sl env 1 = .slice (some ⟨kl, 0, none⟩) ps.length ps.length := ha 1 (by simp)
  clear ha
  have row : ∀ {h : Heap} {wv : Value} {bs : List Value}, CW Z H0 h kc kw wv bs bad ((kt, cs, T) :: (kl, ps.map (fun p => pt kt p.1), Tp) :: L) → Row h (.slice (some ⟨kl, 0, none⟩) ps.length ps.length) (ps.map (fun p => pt kt p.1)) := fun c => (WB.offRow (T := Tp) c (by simp) (by simp)).1
  have hl2 := len_any (row c) Try.underlying142
  simp only [List.length_map] at hl2
  repeat (first | (with_reducible refine Wp.st ?_; simp only [wS]) | with_reducible refine Wp.drawS (by decide +kernel) ?_ | simp (disch := (first | (simp only [List.length_set, hl]; omega) | omega | rfl)) only [walkA, walkB, bne_self_eq_false, beq_self_eq_true, Option.map_some, Option.map_none, reduceIte, decide_true, decide_false, Int.reduceLT, Int.reduceLE, Int.reduceMul, Int.reduceAdd, Int.reduceSub, h0, h1, hl2])
  refine Wp.loop (fun m e hh => ∃ (j : Nat) (v' : Value), j + m = ps.length ∧ e.length = 34 ∧ sl e 0 = pt kc 0 ∧ sl e 6 = .slice (some ⟨kl, 0, none⟩) ps.length ps.length ∧ sl e 7 = .int .i64 ps.length ∧ sl e 8 = .int .i64 j ∧
      CW Z H0 hh kc kw v' (bs ++ (ps.take j).flatMap (fun p => beTo p.2 4)) bad ((kt, cs, T) :: (kl, ps.map (fun p => pt kt p.1), Tp) :: L)) ps.length
    ⟨0, wv, by omega, by simp [hl], by (simp (disch := (first | (simp only [List.length_set, hl]; omega) | omega | rfl)) only [sL, h0]), by (simp (disch := (first | (simp only [List.length_set, hl]; omega) | omega | rfl)) only [sL, h1]), by (simp (disch := (first | (simp only [List.length_set, hl]; omega) | omega | rfl)) only [sL]), by (simp (disch := (first | (simp only [List.length_set, hl]; omega) | omega | rfl)) only [sL]); rfl, by simpa using c⟩ ?_
  clear h0 h1 hl env hl2 c
  rintro m e hh ⟨j, v', hj, hl, e0, e6, e7, e8, c⟩
  repeat (first | (with_reducible refine Wp.st ?_; simp only [wS]) | with_reducible refine Wp.drawS (by decide +kernel) ?_ | simp (disch := (first | (simp only [List.length_set, hl]; omega) | omega | rfl)) only [walkA, walkB, bne_self_eq_false, beq_self_eq_true, Option.map_some, Option.map_none, reduceIte, decide_true, decide_false, Int.reduceLT, Int.reduceLE, Int.reduceMul, Int.reduceAdd, Int.reduceSub, e0, e6, e7, e8])
  by_cases hlt : j < ps.length
  · refine Wp.cond_true (by (simp (disch := (first | (simp only [List.length_set, hl]; omega) | omega | rfl)) only [sL, aEval_tmp]); simpa using hlt) ?_
    have lw := c.lw
    obtain ⟨k, off, hx1, hx2⟩ := (row c).index (P := Try.prog) Try.underlying142 iPU32 rfl (j := j) (kd := .i64) (by simpa using hlt)
    rw [← aLoad_one (P := Try.prog) Try.underlying123 (by simp) (by simp), List.getElem_map] at hx2
    have hpj := hp _ (List.getElem_mem hlt)
    have htk : (ps.take (j + 1)).flatMap (fun p => beTo p.2 4) = (ps.take j).flatMap (fun p => beTo p.2 4) ++ beTo (ps[j]).2 4 := by
      rw [List.take_succ_eq_append_getElem hlt, List.flatMap_append]; simp
    have hfl : ((ps.take j).flatMap (fun p => beTo p.2 4)).length ≤ 8 * j := by
      have := flatLen 4 (by decide) (ps.take j)
      rw [List.length_take] at this
      omega
    generalize ps[j] = pj at hx2 hpj htk
    have ld := CW.ld c Try.underlying23 (by simp) (by simp) pj.1
    rw [hpj.1] at ld
    repeat (first | (with_reducible refine Wp.st ?_; simp only [wS]) | with_reducible refine Wp.drawS (by decide +kernel) ?_ | simp (disch := (first | (simp only [List.length_set, hl]; omega) | omega | rfl)) only [walkA, walkB, bne_self_eq_false, beq_self_eq_true, Option.map_some, Option.map_none, reduceIte, decide_true, decide_false, Int.reduceLT, Int.reduceLE, Int.reduceMul, Int.reduceAdd, Int.reduceSub, e0, e6, e7, e8, hx1, hx2, faC1, lw, pw_np])
    refine Wp.cond_true (by first | ((simp (disch := (first | (simp only [List.length_set, hl]; omega) | omega | rfl)) only [sL, aEval_tmp]); done) | ((simp (disch := (first | (simp only [List.length_set, hl]; omega) | omega | rfl)) only [sL, aEval_tmp]); rfl)) ?_
    refine Wp.drawU [(3, 7)] (by kernel_rfl) ?_
    repeat (simp (disch := (first | (simp only [List.length_set, hl]; omega) | omega | rfl)) only [WD_none, WD_guard, WDG_tt, WDG_ff, WDG_tf, WDG_ft, gval_some, nthD_zero, nthD_succ, WD1_move, WD1_assign, WD1_call, WD1_load, WD1_convert, WD1_fieldAddr, WD1_field, WD1_indexAddr, WD1_extract, WD1_binOp, WD1_unOp, WD1_builtin, WD1_slice2, WD1_slice1, WD1_nilCheck, WD1_pick, DPick_bool, DNil_ptr, DH_some, WDraw_nil, withH_val, aEval_tmp, aEval_const, aPut_some, aPut_none, List.length_set, List.map_cons, List.map_nil, sl_eq, sl_ne, cond_true, cond_false, bin_add, bin_sub, bin_eql, bin_neq, bin_lss, bin_leq, bin_gtr, bin_geq, bne_self_eq_false, beq_self_eq_true, un_not, Bool.not_true, Bool.not_false, wrap_i64, e0, e6, e7, e8, faC1, lw, ld, WD1_buildSlice, bs32])
    have c1 := CW.alloc c [.int .u32 pj.2] 23
    have of1 : Off _ v' kw (.slice (some ⟨hh.next, 0, none⟩) 1 1) ([pj.2].map (Value.int .u32)) := WB.offRow (T := 23) c1 (by simp) rfl
    have lw1 := c1.lw
    refine (u32_am _ [pj.2] kw v' _ _ of1 (by simpa using hpj.2) c1.wr c.one (by rw [List.length_append, List.length_singleton]; omega)).mono ?_
    intro v hd q
    obtain ⟨hr, v2, c2⟩ := CW.done c1 q (all_append' c.one (flat_all' _ _ (fun _ _ => beTo_all _ _)))
    rw [hr]
    repeat (simp (disch := (first | (simp only [List.length_set, hl]; omega) | omega | rfl)) only [WD_none, WD_guard, WDG_tt, WDG_ff, WDG_tf, WDG_ft, gval_some, nthD_zero, nthD_succ, WD1_move, WD1_assign, WD1_call, WD1_load, WD1_convert, WD1_fieldAddr, WD1_field, WD1_indexAddr, WD1_extract, WD1_binOp, WD1_unOp, WD1_builtin, WD1_slice2, WD1_slice1, WD1_nilCheck, WD1_pick, DPick_bool, DNil_ptr, DH_some, WDraw_nil, withH_val, aEval_tmp, aEval_const, aPut_some, aPut_none, List.length_set, List.map_cons, List.map_nil, sl_eq, sl_ne, cond_true, cond_false, bin_add, bin_sub, bin_eql, bin_neq, bin_lss, bin_leq, bin_gtr, bin_geq, bne_self_eq_false, beq_self_eq_true, un_not, Bool.not_true, Bool.not_false, wrap_i64, e0, e6])
    refine ⟨?_, ?_⟩
    · simp only [okPair, List.reverse_cons, List.reverse_nil, List.nil_append, List.cons_append, List.getElem?_cons_zero, List.getElem?_cons_succ, List.mem_cons, List.not_mem_nil, or_false, forall_eq_or_imp, forall_eq, Nat.blt_eq, blt_true, blt_false, cond_true, cond_false, Bool.true_eq_false, Bool.false_eq_true, false_or]
      refine sameAt_load ?_ (veqB_ptr _)
      (simp (disch := (first | (simp only [List.length_set, hl]; omega) | omega | rfl)) only [sL, aEval_tmp])
      exact lw1
    repeat (first | (with_reducible refine Wp.st ?_; simp only [wS]) | with_reducible refine Wp.drawS (by decide +kernel) ?_ | simp (disch := (first | (simp only [List.length_set, hl]; omega) | omega | rfl)) only [walkA, walkB, bne_self_eq_false, beq_self_eq_true, Option.map_some, Option.map_none, reduceIte, decide_true, decide_false, Int.reduceLT, Int.reduceLE, Int.reduceMul, Int.reduceAdd, Int.reduceSub, e0, e6, e7, e8])
    refine ⟨m - 1, by omega, j + 1, v2, by omega, by simp [hl], by (simp (disch := (first | (simp only [List.length_set, hl]; omega) | omega | rfl)) only [sL, e0]), by (simp (disch := (first | (simp only [List.length_set, hl]; omega) | omega | rfl)) only [sL, e6]), by (simp (disch := (first | (simp only [List.length_set, hl]; omega) | omega | rfl)) only [sL, e7]), by (simp (disch := (first | (simp only [List.length_set, hl]; omega) | omega | rfl)) only [sL, Int.natCast_add]); rfl, ?_⟩
    rw [htk, ← List.append_assoc]
    simpa using CW.drop c2
  · refine Wp.cond_false (by (simp (disch := (first | (simp only [List.length_set, hl]; omega) | omega | rfl)) only [sL, aEval_tmp]); simpa using hlt) ?_
    repeat (first | (with_reducible refine Wp.st ?_; simp only [wS]) | with_reducible refine Wp.drawS (by decide +kernel) ?_ | simp (disch := (first | (simp only [List.length_set, hl]; omega) | omega | rfl)) only [walkA, walkB, bne_self_eq_false, beq_self_eq_true, Option.map_some, Option.map_none, reduceIte, decide_true, decide_false, Int.reduceLT, Int.reduceLE, Int.reduceMul, Int.reduceAdd, Int.reduceSub, e0, e6, e7, e8])
    simp only [aRes_none Try.results55]
    rw [List.take_of_length_le (by omega)] at c
    exact ⟨trivial, v', CW.drop (CW.swap c)⟩
set_option maxHeartbeats 1000000 in
theorem u64W_am (kl : Nat) (Tp : TypeId) (ps : List (Nat × Int)) (c : CW Z H0 h kc kw wv bs bad ((kt, cs, T) :: (kl, ps.map (fun p => pt kt p.1), Tp) :: L)) (hp : ∀ p ∈ ps, cs[p.1]? = some (.int .u64 p.2) ∧ True) (hn : ps.length ≤ 1000) (hlen : bs.length ≤ 700000000) :
    Cl Try.prog 56 [pt kc 0, .slice (some ⟨kl, 0, none⟩) ps.length ps.length] h fun v h' => v = .tuple #[] ∧ ∃ v', CW Z H0 h' kc kw v' (bs ++ ps.flatMap (fun p => beTo p.2 8)) bad ((kt, cs, T) :: L) := by
  refine Cl.enter Try.func56 rfl 34 Try.ntmps56 (by simp) ?_
  intro env hl ha
  have h0 : sl env 0 = pt kc 0 := ha 0 (by simp)
  have h1 : sl env 1 = .slice (some ⟨kl, 0, none⟩) ps.length ps.length := ha 1 (by simp)
  clear ha
  have row : ∀ {h : Heap} {wv : Value} {bs : List Value}, CW Z H0 h kc kw wv bs bad ((kt, cs, T) :: (kl, ps.map (fun p => pt kt p.1), Tp) :: L) → Row h (.slice (some ⟨kl, 0, none⟩) ps.length ps.length) (ps.map (fun p => pt kt p.1)) := fun c => (WB.offRow (T := Tp) c (by simp) (by simp)).1
  have hl2 := len_any (row c) Try.underlying143
  simp only [List.length_map] at hl2
  repeat (first | (with_reducible refine Wp.st ?_; simp only [wS]) | with_reducible refine Wp.drawS (by decide +kernel) ?_ | simp (disch := (first | (simp only [List.length_set, hl]; omega) | omega | rfl)) only [walkA, walkB, bne_self_eq_false, beq_self_eq_true, Option.map_some, Option.map_none, reduceIte, decide_true, decide_false, Int.reduceLT, Int.reduceLE, Int.reduceMul, Int.reduceAdd, Int.reduceSub, h0, h1, hl2])
  refine Wp.loop (fun m e hh => ∃ (j : Nat) (v' : Value), j + m = ps.length ∧ e.length = 34 ∧ sl e 0 = pt kc 0 ∧ sl e 6 = .slice (some ⟨kl, 0, none⟩) ps.length ps.length ∧ sl e 7 = .int .i64 ps.length ∧ sl e 8 = .int .i64 j ∧
      CW Z H0 hh kc kw v' (bs ++ (ps.take j).flatMap (fun p => beTo p.2 8)) bad ((kt, cs, T) :: (kl, ps.map (fun p => pt kt p.1), Tp) :: L)) ps.length
    ⟨0, wv, by omega, by simp [hl], by (simp (disch := (first | (simp only [List.length_set, hl]; omega) | omega | rfl)) only [sL, h0]), by (simp (disch := (first | (simp only [List.length_set, hl]; omega) | omega | rfl)) only [sL, h1]), by (simp (disch := (first | (simp only [List.length_set, hl]; omega) | omega | rfl)) only [sL]), by (simp (disch := (first | (simp only [List.length_set, hl]; omega) | omega | rfl)) only [sL]); rfl, by simpa using c⟩ ?_
  clear h0 h1 hl env hl2 c
  rintro m e hh ⟨j, v', hj, hl, e0, e6, e7, e8, c⟩
  repeat (first | (with_reducible refine Wp.st ?_; simp only [wS]) | with_reducible refine Wp.drawS (by decide +kernel) ?_ | simp (disch := (first | (simp only [List.length_set, hl]; omega) | omega | rfl)) only [walkA, walkB, bne_self_eq_false, beq_self_eq_true, Option.map_some, Option.map_none, reduceIte, decide_true, decide_false, Int.reduceLT, Int.reduceLE, Int.reduceMul, Int.reduceAdd, Int.reduceSub, e0, e6, e7, e8])
  by_cases hlt : j < ps.length
  · refine Wp.cond_true (by (simp (disch := (first | (simp only [List.length_set, hl]; omega) | omega | rfl)) only [sL, aEval_tmp]); simpa using hlt) ?_
    have lw := c.lw
    obtain ⟨k, off, hx1, hx2⟩ := (row c).index (P := Try.prog) Try.underlying143 iPU64 rfl (j := j) (kd := .i64) (by simpa using hlt)
    rw [← aLoad_one (P := Try.prog) Try.underlying125 (by simp) (by simp), List.getElem_map] at hx2
    have hpj := hp _ (List.getElem_mem hlt)
    have htk : (ps.take (j + 1)).flatMap (fun p => beTo p.2 8) = (ps.take j).flatMap (fun p => beTo p.2 8) ++ beTo (ps[j]).2 8 := by
      rw [List.take_succ_eq_append_getElem hlt, List.flatMap_append]; simp
    have hfl : ((ps.take j).flatMap (fun p => beTo p.2 8)).length ≤ 8 * j := by
      have := flatLen 8 (by decide) (ps.take j)
      rw [List.length_take] at this
      omega
    generalize ps[j] = pj at hx2 hpj htk
    have ld := CW.ld c Try.underlying24 (by simp) (by simp) pj.1
    rw [hpj.1] at ld
    repeat (first | (with_reducible refine Wp.st ?_; simp only [wS]) | with_reducible refine Wp.drawS (by decide +kernel) ?_ | simp (disch := (first | (simp only [List.length_set, hl]; omega) | omega | rfl)) only [walkA, walkB, bne_self_eq_false, beq_self_eq_true, Option.map_some, Option.map_none, reduceIte, decide_true, decide_false, Int.reduceLT, Int.reduceLE, Int.reduceMul, Int.reduceAdd, Int.reduceSub, e0, e6, e7, e8, hx1, hx2, faC1, lw, pw_np])
    refine Wp.cond_true (by first | ((simp (disch := (first | (simp only [List.length_set, hl]; omega) | omega | rfl)) only [sL, aEval_tmp]); done) | ((simp (disch := (first | (simp only [List.length_set, hl]; omega) | omega | rfl)) only [sL, aEval_tmp]); rfl)) ?_
    refine Wp.drawU [(3, 7)] (by kernel_rfl) ?_
    repeat (simp (disch := (first | (simp only [List.length_set, hl]; omega) | omega | rfl)) only [WD_none, WD_guard, WDG_tt, WDG_ff, WDG_tf, WDG_ft, gval_some, nthD_zero, nthD_succ, WD1_move, WD1_assign, WD1_call, WD1_load, WD1_convert, WD1_fieldAddr, WD1_field, WD1_indexAddr, WD1_extract, WD1_binOp, WD1_unOp, WD1_builtin, WD1_slice2, WD1_slice1, WD1_nilCheck, WD1_pick, DPick_bool, DNil_ptr, DH_some, WDraw_nil, withH_val, aEval_tmp, aEval_const, aPut_some, aPut_none, List.length_set, List.map_cons, List.map_nil, sl_eq, sl_ne, cond_true, cond_false, bin_add, bin_sub, bin_eql, bin_neq, bin_lss, bin_leq, bin_gtr, bin_geq, bne_self_eq_false, beq_self_eq_true, un_not, Bool.not_true, Bool.not_false, wrap_i64, e0, e6, e7, e8, faC1, lw, ld, WD1_buildSlice, bs64])
    have c1 := CW.alloc c [.int .u64 pj.2] 24
    have of1 : Off _ v' kw (.slice (some ⟨hh.next, 0, none⟩) 1 1) ([pj.2].map (Value.int .u64)) := WB.offRow (T := 24) c1 (by simp) rfl
    have lw1 := c1.lw
    refine (u64_am _ [pj.2] kw v' _ _ of1 c1.wr c.one (by rw [List.length_append, List.length_singleton]; omega)).mono ?_
    intro v hd q
    obtain ⟨hr, v2, c2⟩ := CW.done c1 q (all_append' c.one (flat_all' _ _ (fun _ _ => beTo_all _ _)))
    rw [hr]
    repeat (simp (disch := (first | (simp only [List.length_set, hl]; omega) | omega | rfl)) only [WD_none, WD_guard, WDG_tt, WDG_ff, WDG_tf, WDG_ft, gval_some, nthD_zero, nthD_succ, WD1_move, WD1_assign, WD1_call, WD1_load, WD1_convert, WD1_fieldAddr, WD1_field, WD1_indexAddr, WD1_extract, WD1_binOp, WD1_unOp, WD1_builtin, WD1_slice2, WD1_slice1, WD1_nilCheck, WD1_pick, DPick_bool, DNil_ptr, DH_some, WDraw_nil, withH_val, aEval_tmp, aEval_const, aPut_some, aPut_none, List.length_set, List.map_cons, List.map_nil, sl_eq, sl_ne, cond_true, cond_false, bin_add, bin_sub, bin_eql, bin_neq, bin_lss, bin_leq, bin_gtr, bin_geq, bne_self_eq_false, beq_self_eq_true, un_not, Bool.not_true, Bool.not_false, wrap_i64, e0, e6])
    refine ⟨?_, ?_⟩
    · simp only [okPair, List.reverse_cons, List.reverse_nil, List.nil_append, List.cons_append, List.getElem?_cons_zero, List.getElem?_cons_succ, List.mem_cons, List.not_mem_nil, or_false, forall_eq_or_imp, forall_eq, Nat.blt_eq, blt_true, blt_false, cond_true, cond_false, Bool.true_eq_false, Bool.false_eq_true, false_or]
      refine sameAt_load ?_ (veqB_ptr _)
      (simp (disch := (first | (simp only [List.length_set, hl]; omega) | omega | rfl)) only [sL, aEval_tmp])
      exact lw1
    repeat (first | (with_reducible refine Wp.st ?_; simp only [wS]) | with_reducible refine Wp.drawS (by decide +kernel) ?_ | simp (disch := (first | (simp only [List.length_set, hl]; omega) | omega | rfl)) only [walkA, walkB, bne_self_eq_false, beq_self_eq_true, Option.map_some, Option.map_none, reduceIte, decide_true, decide_false, Int.reduceLT, Int.reduceLE, Int.reduceMul, Int.reduceAdd, Int.reduceSub, e0, e6, e7, e8])
    refine ⟨m - 1, by omega, j + 1, v2, by omega, by simp [hl], by (simp (disch := (first | (simp only [List.length_set, hl]; omega) | omega | rfl)) only [sL, e0]), by (simp (disch := (first | (simp only [List.length_set, hl]; omega) | omega | rfl)) only [sL, e6]), by (simp (disch := (first | (simp only [List.length_set, hl]; omega) | omega | rfl)) only [sL, e7]), by (simp (disch := (first | (simp only [List.length_set, hl]; omega) | omega | rfl)) only [sL, Int.natCast_add]); rfl, ?_⟩
    rw [htk, ← List.append_assoc]
    simpa using CW.drop c2
  · refine Wp.cond_false (by (simp (disch := (first | (simp only [List.length_set, hl]; omega) | omega | rfl)) only [sL, aEval_tmp]); simpa using hlt) ?_
    repeat (first | (with_reducible refine Wp.st ?_; simp only [wS]) | with_reducible refine Wp.drawS (by decide +kernel) ?_ | simp (disch := (first | (simp only [List.length_set, hl]; omega) | omega | rfl)) only [walkA, walkB, bne_self_eq_false, beq_self_eq_true, Option.map_some, Option.map_none, reduceIte, decide_true, decide_false, Int.reduceLT, Int.reduceLE, Int.reduceMul, Int.reduceAdd, Int.reduceSub, e0, e6, e7, e8])
    simp only [aRes_none Try.results56]
    rw [List.take_of_length_le (by omega)] at c
    exact ⟨trivial, v', CW.drop (CW.swap c)⟩
end
end Go.Proofs.Ytanknjpcgceccaa

namespace Go.Proofs.Ytanknjpcgceccaa
open Go Go.AM
set_option linter.unusedSimpArgs false
set_option maxRecDepth 100000
attribute [local irreducible] WOps WV WH WSt WNil WPick WGd
section
variable (Z : Nat → Prop) (H0 h : Heap) (kc kw : Nat) (wv : Value) (bs : List Value) (bad : Bool) (L : List Blk) (kt : Nat) (cs : List Value) (T : TypeId)
theorem u32W1 (o : Nat) (n : Int) (c : CW Z H0 h kc kw wv bs bad ((kt, cs, T) :: L)) (hv : cs[o]? = some (.int .u32 n)) (hn0 : 0 ≤ n) (hn1 : n < 4294967296) (hlen : bs.length ≤ 700000000) :
    Cl Try.prog 55 [pt kc 0, .slice (some ⟨h.next, 0, none⟩) 1 1] (h.push (.cells [pt kt o] 123 false)) fun v h' => v = .tuple #[] ∧ ∃ v', CW Z H0 h' kc kw v' (bs ++ beTo n 4) bad ((kt, cs, T) :: L) :=
  (u32W_am Z H0 _ kc kw wv bs bad L kt cs T h.next 123 [(o, n)] (CW.alloc c _ _).swap (by simpa using ⟨hv, hn0, hn1⟩) (by simp) hlen).mono fun v h' q => ⟨q.1, by simpa using q.2⟩
theorem u64W1 (o : Nat) (n : Int) (c : CW Z H0 h kc kw wv bs bad ((kt, cs, T) :: L)) (hv : cs[o]? = some (.int .u64 n)) (hlen : bs.length ≤ 700000000) :
    Cl Try.prog 56 [pt kc 0, .slice (some ⟨h.next, 0, none⟩) 1 1] (h.push (.cells [pt kt o] 125 false)) fun v h' => v = .tuple #[] ∧ ∃ v', CW Z H0 h' kc kw v' (bs ++ beTo n 8) bad ((kt, cs, T) :: L) :=
  (u64W_am Z H0 _ kc kw wv bs bad L kt cs T h.next 125 [(o, n)] (CW.alloc c _ _).swap (by simpa using hv) (by simp) hlen).mono fun v h' q => ⟨q.1, by simpa using q.2⟩
theorem u32W2 (o p : Nat) (n m : Int) (c : CW Z H0 h kc kw wv bs bad ((kt, cs, T) :: L)) (hv : cs[o]? = some (.int .u32 n)) (hn0 : 0 ≤ n) (hn1 : n < 4294967296) (hv2 : cs[p]? = some (.int .u32 m)) (hm0 : 0 ≤ m) (hm1 : m < 4294967296) (hlen : bs.length ≤ 700000000) :
    Cl Try.prog 55 [pt kc 0, .slice (some ⟨h.next, 0, none⟩) 2 2] (h.push (.cells [pt kt o, pt kt p] 123 false)) fun v h' => v = .tuple #[] ∧ ∃ v', CW Z H0 h' kc kw v' (bs ++ (beTo n 4 ++ beTo m 4)) bad ((kt, cs, T) :: L) :=
  (u32W_am Z H0 _ kc kw wv bs bad L kt cs T h.next 123 [(o, n), (p, m)] (CW.alloc c _ _).swap (by simpa using ⟨⟨hv, hn0, hn1⟩, hv2, hm0, hm1⟩) (by simp) hlen).mono fun v h' q => ⟨q.1, by simpa using q.2⟩
theorem u64W2 (o p : Nat) (n m : Int) (c : CW Z H0 h kc kw wv bs bad ((kt, cs, T) :: L)) (hv : cs[o]? = some (.int .u64 n)) (hv2 : cs[p]? = some (.int .u64 m)) (hlen : bs.length ≤ 700000000) :
    Cl Try.prog 56 [pt kc 0, .slice (some ⟨h.next, 0, none⟩) 2 2] (h.push (.cells [pt kt o, pt kt p] 125 false)) fun v h' => v = .tuple #[] ∧ ∃ v', CW Z H0 h' kc kw v' (bs ++ (beTo n 8 ++ beTo m 8)) bad ((kt, cs, T) :: L) :=
  (u64W_am Z H0 _ kc kw wv bs bad L kt cs T h.next 125 [(o, n), (p, m)] (CW.alloc c _ _).swap (by simpa using ⟨hv, hv2⟩) (by simp) hlen).mono fun v h' q => ⟨q.1, by simpa using q.2⟩
theorem wrap32_le (x : Int) : 0 ≤ IntKind.u32.wrap x ∧ IntKind.u32.wrap x < 4294967296 := by
  constructor <;> simp [IntKind.wrap, IntKind.bits, IntKind.signed] <;> omega
set_option maxHeartbeats 1000000 in
theorem numW_am (o : Nat) (a b v0 : Int) (c : CW Z H0 h kc kw wv bs bad ((kt, cs, T) :: L)) (hv : cs[o]? = some (.int .i64 v0)) (hlen : bs.length ≤ 700000000) :
    Cl Try.prog 57 [pt kc 0, pt kt o, .int .i64 a, .int .i64 b] h fun v h' => v = .tuple #[] ∧ ∃ v', CW Z H0 h' kc kw v' (bs ++ beTo (IntKind.u32.wrap v0) 4) (bad || !(decide (a ≤ v0) && decide (v0 ≤ b))) ((kt, cs, T) :: L) := by
  refine Cl.enter Try.func57 rfl 58 Try.ntmps57 (by simp) ?_
  intro env hl ha
  have h0 : sl env 0 = pt kc 0 := ha 0 (by simp)
  have h1 : sl env 1 = pt kt o := ha 1 (by simp)
  have h2 : sl env 2 = .int .i64 a := ha 2 (by simp)
  have h3 : sl env 3 = .int .i64 b := ha 3 (by simp)
  clear ha
  have h1' := h1
  have h2' := h2
  have h3' := h3
  clear h1 h2 h3
  have lw := c.lw
  have ld := CW.ld c Try.underlying3 (by simp) (by simp) o
  rw [hv] at ld
  have w1 := wrap32_le v0
  have hcv := fun x hx => conv_int (h := hx) (k' := .i64) (n := x) Try.underlying3 Try.underlying23
  by_cases hf : a ≤ v0
  · have d1 : decide (v0 ≥ a) = true := decide_eq_true hf
    repeat (first | (with_reducible refine Wp.st ?_; simp only [wS]) | with_reducible refine Wp.drawS (by decide +kernel) ?_ | simp (disch := (first | (simp only [List.length_set, hl]; omega) | omega | rfl)) only [walkA, walkB, bne_self_eq_false, beq_self_eq_true, Option.map_some, Option.map_none, reduceIte, decide_true, decide_false, Int.reduceLT, Int.reduceLE, Int.reduceMul, Int.reduceAdd, Int.reduceSub, h0, h1', h2', h3', faC1, lw, pw_np])
    refine Wp.cond_true (by first | ((simp (disch := (first | (simp only [List.length_set, hl]; omega) | omega | rfl)) only [sL, aEval_tmp]); done) | ((simp (disch := (first | (simp only [List.length_set, hl]; omega) | omega | rfl)) only [sL, aEval_tmp]); rfl)) ?_
    repeat (first | (with_reducible refine Wp.st ?_; simp only [wS]) | with_reducible refine Wp.drawS (by decide +kernel) ?_ | simp (disch := (first | (simp only [List.length_set, hl]; omega) | omega | rfl)) only [walkA, walkB, bne_self_eq_false, beq_self_eq_true, Option.map_some, Option.map_none, reduceIte, decide_true, decide_false, Int.reduceLT, Int.reduceLE, Int.reduceMul, Int.reduceAdd, Int.reduceSub, h0, h1', h2', h3', ld, d1])
    refine (mustW_am (decide (v0 ≤ b)) c).mono ?_
    intro v h1 q
    rw [q.1]
    have c1 := q.2
    clear q
    have ld1 := CW.ld c1 Try.underlying3 (by simp) (by simp) o
    rw [hv] at ld1
    have al := alU32 (h := h1)
    obtain ⟨h3, p1, c3⟩ := CW.put (CW.alloc c1 [.int .u32 0] 23) iU32 rfl 0 (by simp) (v := .int .u32 (IntKind.u32.wrap v0)) rfl rfl
    generalize h1.push (.cells [.int .u32 0] 23 false) = h2 at al p1
    generalize h1.next = kn at al p1 c3
    repeat (first | (with_reducible refine Wp.st ?_; simp only [wS]) | with_reducible refine Wp.drawS (by decide +kernel) ?_ | simp (disch := (first | (simp only [List.length_set, hl]; omega) | omega | rfl)) only [walkA, walkB, bne_self_eq_false, beq_self_eq_true, Option.map_some, Option.map_none, reduceIte, decide_true, decide_false, Int.reduceLT, Int.reduceLE, Int.reduceMul, Int.reduceAdd, Int.reduceSub, h0, h1', h2', h3', ld1, hcv, al, p1, bp32])
    refine (u32W1 _ _ _ kc kw _ bs _ _ kn _ _ 0 (IntKind.u32.wrap v0) c3 rfl w1.1 w1.2 hlen).mono ?_
    intro v h4 q
    rw [q.1]
    obtain ⟨v', c4⟩ := q.2
    have lw4 := c4.lw
    repeat (first | (with_reducible refine Wp.st ?_; simp only [wS]) | with_reducible refine Wp.drawS (by decide +kernel) ?_ | simp (disch := (first | (simp only [List.length_set, hl]; omega) | omega | rfl)) only [walkA, walkB, bne_self_eq_false, beq_self_eq_true, Option.map_some, Option.map_none, reduceIte, decide_true, decide_false, Int.reduceLT, Int.reduceLE, Int.reduceMul, Int.reduceAdd, Int.reduceSub, h0, h1', h2', h3', faC1, lw4, pw_ep])
    refine Wp.cond_false (by first | ((simp (disch := (first | (simp only [List.length_set, hl]; omega) | omega | rfl)) only [sL, aEval_tmp]); done) | ((simp (disch := (first | (simp only [List.length_set, hl]; omega) | omega | rfl)) only [sL, aEval_tmp]); rfl)) ?_
    repeat (first | (with_reducible refine Wp.st ?_; simp only [wS]) | with_reducible refine Wp.drawS (by decide +kernel) ?_ | simp (disch := (first | (simp only [List.length_set, hl]; omega) | omega | rfl)) only [walkA, walkB, bne_self_eq_false, beq_self_eq_true, Option.map_some, Option.map_none, reduceIte, decide_true, decide_false, Int.reduceLT, Int.reduceLE, Int.reduceMul, Int.reduceAdd, Int.reduceSub, h0])
    simp only [aRes_none Try.results57]
    rw [Bool.true_and]
    exact ⟨trivial, v', CW.drop c4⟩
  · have d1 : decide (v0 ≥ a) = false := decide_eq_false hf
    repeat (first | (with_reducible refine Wp.st ?_; simp only [wS]) | with_reducible refine Wp.drawS (by decide +kernel) ?_ | simp (disch := (first | (simp only [List.length_set, hl]; omega) | omega | rfl)) only [walkA, walkB, bne_self_eq_false, beq_self_eq_true, Option.map_some, Option.map_none, reduceIte, decide_true, decide_false, Int.reduceLT, Int.reduceLE, Int.reduceMul, Int.reduceAdd, Int.reduceSub, h0, h1', h2', h3', faC1, lw, pw_np])
    refine Wp.cond_true (by first | ((simp (disch := (first | (simp only [List.length_set, hl]; omega) | omega | rfl)) only [sL, aEval_tmp]); done) | ((simp (disch := (first | (simp only [List.length_set, hl]; omega) | omega | rfl)) only [sL, aEval_tmp]); rfl)) ?_
    repeat (first | (with_reducible refine Wp.st ?_; simp only [wS]) | with_reducible refine Wp.drawS (by decide +kernel) ?_ | simp (disch := (first | (simp only [List.length_set, hl]; omega) | omega | rfl)) only [walkA, walkB, bne_self_eq_false, beq_self_eq_true, Option.map_some, Option.map_none, reduceIte, decide_true, decide_false, Int.reduceLT, Int.reduceLE, Int.reduceMul, Int.reduceAdd, Int.reduceSub, h0, h1', h2', h3', ld, d1])
    refine (mustW_am false c).mono ?_
    intro v h1 q
    rw [q.1]
    have c1 := q.2
    clear q
    have ld1 := CW.ld c1 Try.underlying3 (by simp) (by simp) o
    rw [hv] at ld1
    have al := alU32 (h := h1)
    obtain ⟨h3, p1, c3⟩ := CW.put (CW.alloc c1 [.int .u32 0] 23) iU32 rfl 0 (by simp) (v := .int .u32 (IntKind.u32.wrap v0)) rfl rfl
    generalize h1.push (.cells [.int .u32 0] 23 false) = h2 at al p1
    generalize h1.next = kn at al p1 c3
    repeat (first | (with_reducible refine Wp.st ?_; simp only [wS]) | with_reducible refine Wp.drawS (by decide +kernel) ?_ | simp (disch := (first | (simp only [List.length_set, hl]; omega) | omega | rfl)) only [walkA, walkB, bne_self_eq_false, beq_self_eq_true, Option.map_some, Option.map_none, reduceIte, decide_true, decide_false, Int.reduceLT, Int.reduceLE, Int.reduceMul, Int.reduceAdd, Int.reduceSub, h0, h1', h2', h3', ld1, hcv, al, p1, bp32])
    refine (u32W1 _ _ _ kc kw _ bs _ _ kn _ _ 0 (IntKind.u32.wrap v0) c3 rfl w1.1 w1.2 hlen).mono ?_
    intro v h4 q
    rw [q.1]
    obtain ⟨v', c4⟩ := q.2
    have lw4 := c4.lw
    repeat (first | (with_reducible refine Wp.st ?_; simp only [wS]) | with_reducible refine Wp.drawS (by decide +kernel) ?_ | simp (disch := (first | (simp only [List.length_set, hl]; omega) | omega | rfl)) only [walkA, walkB, bne_self_eq_false, beq_self_eq_true, Option.map_some, Option.map_none, reduceIte, decide_true, decide_false, Int.reduceLT, Int.reduceLE, Int.reduceMul, Int.reduceAdd, Int.reduceSub, h0, h1', h2', h3', faC1, lw4, pw_ep])
    refine Wp.cond_false (by first | ((simp (disch := (first | (simp only [List.length_set, hl]; omega) | omega | rfl)) only [sL, aEval_tmp]); done) | ((simp (disch := (first | (simp only [List.length_set, hl]; omega) | omega | rfl)) only [sL, aEval_tmp]); rfl)) ?_
    repeat (first | (with_reducible refine Wp.st ?_; simp only [wS]) | with_reducible refine Wp.drawS (by decide +kernel) ?_ | simp (disch := (first | (simp only [List.length_set, hl]; omega) | omega | rfl)) only [walkA, walkB, bne_self_eq_false, beq_self_eq_true, Option.map_some, Option.map_none, reduceIte, decide_true, decide_false, Int.reduceLT, Int.reduceLE, Int.reduceMul, Int.reduceAdd, Int.reduceSub, h0])
    simp only [aRes_none Try.results57]
    rw [Bool.false_and]
    exact ⟨trivial, v', CW.drop c4⟩
theorem bsRow {h : Heap} {a : Option Addr} {n c : Nat} : aBuildSlice Try.prog h 165 1 [(0, .slice a n c)] = some (.slice (some ⟨h.next, 0, none⟩) 1 1, h.push (.cells [.slice a n c] 22 false)) := by kernel_rfl
set_option maxHeartbeats 1000000 in
theorem rowW_am (o : Nat) (most : Int) (dv : Value) (xs : List Value) (c : CW Z H0 h kc kw wv bs bad ((kt, cs, T) :: L)) (hv : cs[o]? = some dv) (hsl : ∃ a n c, dv = .slice a n c)
    (hOff : ∀ h' v' bs' b' L', CW Z H0 h' kc kw v' bs' b' (L' ++ (kt, cs, T) :: L) → Off h' v' kw dv xs) (hx1 : xs.all Value.oneCell' = true) (hxl : xs.length ≤ 40000) (hlen : bs.length ≤ 900000) :
    Cl Try.prog 58 [pt kc 0, pt kt o, .int .i64 most] h fun v h' => v = .tuple #[] ∧ ∃ v', CW Z H0 h' kc kw v' (bs ++ bytesB (dv, xs)) (bad || !(decide ((xs.length : Int) ≤ most))) ((kt, cs, T) :: L) := by
  refine Cl.enter Try.func58 rfl 36 Try.ntmps58 (by simp) ?_
  intro env hl ha
  have h0 : sl env 0 = pt kc 0 := ha 0 (by simp)
  have h1 : sl env 1 = pt kt o := ha 1 (by simp)
  have h2 : sl env 2 = .int .i64 most := ha 2 (by simp)
  clear ha
  have lw := c.lw
  have ld := CW.ld c Try.underlying22 (by simp) (by simp) o
  rw [hv] at ld
  have hl2 := len_any (hOff _ _ _ _ [] c).1 Try.underlying22
  repeat (first | (with_reducible refine Wp.st ?_; simp only [wS]) | with_reducible refine Wp.drawS (by decide +kernel) ?_ | simp (disch := (first | (simp only [List.length_set, hl]; omega) | omega | rfl)) only [walkA, walkB, bne_self_eq_false, beq_self_eq_true, Option.map_some, Option.map_none, reduceIte, decide_true, decide_false, Int.reduceLT, Int.reduceLE, Int.reduceMul, Int.reduceAdd, Int.reduceSub, h0, h1, h2, faC1, lw, pw_ep])
  refine Wp.cond_false (by first | ((simp (disch := (first | (simp only [List.length_set, hl]; omega) | omega | rfl)) only [sL, aEval_tmp]); done) | ((simp (disch := (first | (simp only [List.length_set, hl]; omega) | omega | rfl)) only [sL, aEval_tmp]); rfl)) ?_
  repeat (first | (with_reducible refine Wp.st ?_; simp only [wS]) | with_reducible refine Wp.drawS (by decide +kernel) ?_ | simp (disch := (first | (simp only [List.length_set, hl]; omega) | omega | rfl)) only [walkA, walkB, bne_self_eq_false, beq_self_eq_true, Option.map_some, Option.map_none, reduceIte, decide_true, decide_false, Int.reduceLT, Int.reduceLE, Int.reduceMul, Int.reduceAdd, Int.reduceSub, h0, h1, h2, ld, hl2])
  refine (mustW_am (decide ((xs.length : Int) ≤ most)) c).mono ?_
  intro v h1' q
  rw [q.1]
  have c1 := q.2
  clear q
  have lw := c1.lw
  have ld := CW.ld c1 Try.underlying22 (by simp) (by simp) o
  rw [hv] at ld
  obtain ⟨da, dn, dc, hdv⟩ := hsl
  have bsr := bsRow (h := h1') (a := da) (n := dn) (c := dc)
  rw [← hdv] at bsr
  repeat (first | (with_reducible refine Wp.st ?_; simp only [wS]) | with_reducible refine Wp.drawS (by decide +kernel) ?_ | simp (disch := (first | (simp only [List.length_set, hl]; omega) | omega | rfl)) only [walkA, walkB, bne_self_eq_false, beq_self_eq_true, Option.map_some, Option.map_none, reduceIte, decide_true, decide_false, Int.reduceLT, Int.reduceLE, Int.reduceMul, Int.reduceAdd, Int.reduceSub, h0, h1, h2])
  refine Wp.drawU [(3, 7)] (by kernel_rfl) ?_
  repeat (simp (disch := (first | (simp only [List.length_set, hl]; omega) | omega | rfl)) only [WD_none, WD_guard, WDG_tt, WDG_ff, WDG_tf, WDG_ft, gval_some, nthD_zero, nthD_succ, WD1_move, WD1_assign, WD1_call, WD1_load, WD1_convert, WD1_fieldAddr, WD1_field, WD1_indexAddr, WD1_extract, WD1_binOp, WD1_unOp, WD1_builtin, WD1_slice2, WD1_slice1, WD1_nilCheck, WD1_pick, DPick_bool, DNil_ptr, DH_some, WDraw_nil, withH_val, aEval_tmp, aEval_const, aPut_some, aPut_none, List.length_set, List.map_cons, List.map_nil, sl_eq, sl_ne, cond_true, cond_false, bin_add, bin_sub, bin_eql, bin_neq, bin_lss, bin_leq, bin_gtr, bin_geq, bne_self_eq_false, beq_self_eq_true, un_not, Bool.not_true, Bool.not_false, wrap_i64, h0, h1, faC1, lw, ld, WD1_buildSlice, bsr])
  have c2 := CW.alloc c1 [dv] 22
  have of1 : Off _ wv kw (.slice (some ⟨h1'.next, 0, none⟩) 1 1) [dv] := WB.offRow (T := 22) c2 (by simp) rfl
  have of2 := hOff _ _ _ _ [(h1'.next, [dv], 22)] c2
  have lw1 := c2.lw
  refine (bytes_am _ [(dv, xs)] kw wv bs _ ⟨of1, by simp, fun p hp => by obtain rfl := List.mem_singleton.1 hp; exact ⟨of2, hx1, hxl, da, dn, dc, hdv⟩⟩ c2.wr c.one (by omega)).mono ?_
  intro v hd q
  obtain ⟨hr, v', c3⟩ := CW.done c2 q (all_append' c.one (by simpa [bytesB] using all_append' (beTo_all _ 4) (all_append' hx1 (padB_all _))))
  rw [hr]
  repeat (simp (disch := (first | (simp only [List.length_set, hl]; omega) | omega | rfl)) only [WD_none, WD_guard, WDG_tt, WDG_ff, WDG_tf, WDG_ft, gval_some, nthD_zero, nthD_succ, WD1_move, WD1_assign, WD1_call, WD1_load, WD1_convert, WD1_fieldAddr, WD1_field, WD1_indexAddr, WD1_extract, WD1_binOp, WD1_unOp, WD1_builtin, WD1_slice2, WD1_slice1, WD1_nilCheck, WD1_pick, DPick_bool, DNil_ptr, DH_some, WDraw_nil, withH_val, aEval_tmp, aEval_const, aPut_some, aPut_none, List.length_set, List.map_cons, List.map_nil, sl_eq, sl_ne, cond_true, cond_false, bin_add, bin_sub, bin_eql, bin_neq, bin_lss, bin_leq, bin_gtr, bin_geq, bne_self_eq_false, beq_self_eq_true, un_not, Bool.not_true, Bool.not_false, wrap_i64, h0, h1])
  refine ⟨?_, ?_⟩
  · simp only [okPair, List.reverse_cons, List.reverse_nil, List.nil_append, List.cons_append, List.getElem?_cons_zero, List.getElem?_cons_succ, List.mem_cons, List.not_mem_nil, or_false, forall_eq_or_imp, forall_eq, Nat.blt_eq, blt_true, blt_false, cond_true, cond_false, Bool.true_eq_false, Bool.false_eq_true, false_or]
    refine sameAt_load ?_ (veqB_ptr _)
    (simp (disch := (first | (simp only [List.length_set, hl]; omega) | omega | rfl)) only [sL, aEval_tmp])
    exact lw1
  repeat (first | (with_reducible refine Wp.st ?_; simp only [wS]) | with_reducible refine Wp.drawS (by decide +kernel) ?_ | simp (disch := (first | (simp only [List.length_set, hl]; omega) | omega | rfl)) only [walkA, walkB, bne_self_eq_false, beq_self_eq_true, Option.map_some, Option.map_none, reduceIte, decide_true, decide_false, Int.reduceLT, Int.reduceLE, Int.reduceMul, Int.reduceAdd, Int.reduceSub, h0])
  simp only [aRes_none Try.results58]
  exact ⟨trivial, v', by simpa using CW.drop c3⟩
end
end Go.Proofs.Ytanknjpcgceccaa

namespace Go.Proofs.Ytanknjpcgceccaa
open Go Go.AM
set_option linter.unusedSimpArgs false
set_option maxRecDepth 100000
attribute [local irreducible] WOps WV WH WSt WNil WPick WGd
def strB (s : ByteArray) : List Value := s.data.toList.map fun b => .int .u8 b.toNat
theorem strB_len (s : ByteArray) : (strB s).length = s.size := by unfold strB; rw [List.length_map, Array.length_toList]; rfl
theorem strB_one (s : ByteArray) : (strB s).all Value.oneCell' = true := List.all_eq_true.2 fun x hx => by
  obtain ⟨b, _, rfl⟩ := List.mem_map.1 hx
  rfl
section
variable (Z : Nat → Prop) (H0 h : Heap) (kc kw : Nat) (wv : Value) (bs : List Value) (bad : Bool) (L : List Blk) (kt : Nat) (cs : List Value) (T : TypeId)
set_option maxHeartbeats 1000000 in
theorem textW_am (o : Nat) (most : Int) (s0 : ByteArray) (c : CW Z H0 h kc kw wv bs bad ((kt, cs, T) :: L)) (hv : cs[o]? = some (.string s0)) (hs0 : s0.size ≤ 40000) (hlen : bs.length ≤ 900000)
    (hcv : ∀ (h : Heap) (v : Value), Row h v (strB s0) → aConv Try.prog h 22 9 v = some (.string s0, h)) :
    Cl Try.prog 51 [pt kc 0, pt kt o, .int .i64 most] h fun v h' => v = .tuple #[] ∧ ∃ v', CW Z H0 h' kc kw v' (bs ++ (beTo s0.size 4 ++ (strB s0 ++ padB s0.size))) (bad || !(decide ((s0.size : Int) ≤ most))) ((kt, cs, T) :: L) := by
  have ho : o < cs.length := (List.getElem?_eq_some_iff.1 hv).1
  refine Cl.enter Try.func51 rfl 18 Try.ntmps51 (by simp) ?_
  intro env hl ha
  have h0 : sl env 0 = pt kc 0 := ha 0 (by simp)
  have h1 : sl env 1 = pt kt o := ha 1 (by simp)
  have h2 : sl env 2 = .int .i64 most := ha 2 (by simp)
  clear ha
  have ld := CW.ld c Try.underlying9 (by simp) (by simp) o
  rw [hv] at ld
  have cv : aConv Try.prog h 9 22 (.string s0) = some (.slice (some ⟨h.next, 0, none⟩) s0.size opnCap, h.push (.cells (strB s0) 5 false)) := cvStr (h := h) (s := s0) (by omega)
  have c0 := CW.alloc c (strB s0) 5
  generalize h.push (.cells (strB s0) 5 false) = hb at cv c0
  generalize h.next = kb at cv c0
  have al := alRow (h := hb)
  have c1 := CW.alloc c0 [.slice none 0 0] 22
  generalize hb.push (.cells [.slice none 0 0] 22 false) = hc at al c1
  generalize hb.next = kv at al c1
  obtain ⟨h3, p1, c3⟩ := CW.put c1 iRow rfl 0 (by simp) (v := .slice (some ⟨kb, 0, none⟩) s0.size opnCap) rfl rfl
  repeat (first | (with_reducible refine Wp.st ?_; simp only [wS]) | with_reducible refine Wp.drawS (by decide +kernel) ?_ | simp (disch := (first | (simp only [List.length_set, hl]; omega) | omega | rfl)) only [walkA, walkB, bne_self_eq_false, beq_self_eq_true, Option.map_some, Option.map_none, reduceIte, decide_true, decide_false, Int.reduceLT, Int.reduceLE, Int.reduceMul, Int.reduceAdd, Int.reduceSub, h0, h1, h2, ld, cv, al, p1])
  have off : ∀ h' v' bs' b' L', CW Z H0 h' kc kw v' bs' b' (L' ++ (kv, [Value.slice none 0 0].set 0 (.slice (some ⟨kb, 0, none⟩) s0.size opnCap), 22) :: (kb, strB s0, 5) :: (kt, cs, T) :: L) → Off h' v' kw (.slice (some ⟨kb, 0, none⟩) s0.size opnCap) (strB s0) := fun h' v' bs' b' L' c => by
    have hm : (kb, strB s0, 5) ∈ ((kc, [.pointer none, pt kw 0, .bool b'], TC) :: (L' ++ (kv, [Value.slice none 0 0].set 0 (.slice (some ⟨kb, 0, none⟩) s0.size opnCap), 22) :: (kb, strB s0, 5) :: (kt, cs, T) :: L)) := by simp
    have hg := c.st.get _ (List.mem_cons_of_mem _ hm)
    refine ⟨by have := Row.whole (cap := opnCap) hg; rw [strB_len] at this; exact this, fun a m d e _ => ?_⟩
    injection e with e1
    injection e1 with e1
    subst e1
    exact ⟨fun hh => hh.elim (fun e => c.st.ne _ hm e) (fun hb => (c.off _ hb).2.2 _ hm rfl), Heap.get_lt hg⟩
  refine (rowW_am Z H0 _ kc kw _ bs _ _ kv _ _ 0 most _ (strB s0) c3 rfl ⟨_, _, _, rfl⟩ off (strB_one s0) (by rw [strB_len]; exact hs0) hlen).mono ?_
  intro v h4 q
  rw [q.1]
  obtain ⟨v', c4⟩ := q.2
  clear q
  have ld2 := CW.ld c4 Try.underlying22 (by simp) (by simp) 0
  rw [List.getElem?_set_self (by simp)] at ld2
  have cv2 := hcv h4 _ (off _ _ _ _ [] c4).1
  obtain ⟨h5, p5, c5⟩ := CW.put (CW.drop (CW.drop c4)) iStr rfl o ho (v := .string s0) rfl rfl
  have e5 : cs.set o (.string s0) = cs := by
    obtain ⟨hl, he⟩ := List.getElem?_eq_some_iff.1 hv
    rw [← he]; exact List.set_getElem_self hl
  rw [e5] at c5
  repeat (first | (with_reducible refine Wp.st ?_; simp only [wS]) | with_reducible refine Wp.drawS (by decide +kernel) ?_ | simp (disch := (first | (simp only [List.length_set, hl]; omega) | omega | rfl)) only [walkA, walkB, bne_self_eq_false, beq_self_eq_true, Option.map_some, Option.map_none, reduceIte, decide_true, decide_false, Int.reduceLT, Int.reduceLE, Int.reduceMul, Int.reduceAdd, Int.reduceSub, h0, h1, h2, ld2, cv2, p5])
  simp only [aRes_none Try.results51]
  simp only [bytesB, strB_len] at c5
  exact ⟨trivial, v', c5⟩
end
end Go.Proofs.Ytanknjpcgceccaa
