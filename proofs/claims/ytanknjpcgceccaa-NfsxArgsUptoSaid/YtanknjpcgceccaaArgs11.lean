/- What the coder's times and what is set come to where it writes. -/
import Derived.Test.YtanknjpcgceccaaArgs5
import Derived.Test.YtanknjpcgceccaaArgs8
import Derived.Test.YtanknjpcgceccaaArgs10
import Derived.Test.YtanknjpcgceccaaRows

namespace Go.Proofs.Ytanknjpcgceccaa
open Go Go.AM
set_option linter.unusedSimpArgs false
set_option maxRecDepth 100000
attribute [local irreducible] WOps WV WH WSt WNil WPick WGd
section
variable (Z : Nat → Prop) (H0 h : Heap) (kc kw : Nat) (wv : Value) (bs : List Value) (bad : Bool) (L : List Blk) (kt : Nat) (cs : List Value) (T : TypeId)
theorem timeW_am (o : Nat) (n m : Int) (c : CW Z H0 h kc kw wv bs bad ((kt, cs, T) :: L)) (hv : cs[o]? = some (.int .u32 n)) (hn0 : 0 ≤ n) (hn1 : n < 4294967296) (hv2 : cs[o + 1]? = some (.int .u32 m)) (hm0 : 0 ≤ m) (hm1 : m < 4294967296) (hlen : bs.length ≤ 700000000) :
    Cl Try.prog 54 [pt kc 0, pt kt o] h fun v h' => v = .tuple #[] ∧ ∃ v', CW Z H0 h' kc kw v' (bs ++ (beTo n 4 ++ beTo m 4)) bad ((kt, cs, T) :: L) := by
  refine Cl.enter Try.func54 rfl 13 Try.ntmps54 (by simp) ?_
  intro env hl ha
  have h0 : sl env 0 = pt kc 0 := ha 0 (by simp)
  have h1 : sl env 1 = pt kt o := ha 1 (by simp)
  clear ha
  repeat (first | (with_reducible refine Wp.st ?_; simp only [wS]) | with_reducible refine Wp.drawS (by decide +kernel) ?_ | simp (disch := (first | (simp only [List.length_set, hl]; omega) | omega | rfl)) only [walkA, walkB, bne_self_eq_false, beq_self_eq_true, Option.map_some, Option.map_none, reduceIte, decide_true, decide_false, Int.reduceLT, Int.reduceLE, Int.reduceMul, Int.reduceAdd, Int.reduceSub, h0, h1, faT0, faT1, bp32'])
  refine (u32W2 Z H0 _ kc kw wv bs bad L kt cs T o (o + 1) n m c hv hn0 hn1 hv2 hm0 hm1 hlen).mono ?_
  intro v hh q
  rw [q.1]
  have c := q.2
  clear q
  repeat (first | (with_reducible refine Wp.st ?_; simp only [wS]) | with_reducible refine Wp.drawS (by decide +kernel) ?_ | simp (disch := (first | (simp only [List.length_set, hl]; omega) | omega | rfl)) only [walkA, walkB, bne_self_eq_false, beq_self_eq_true, Option.map_some, Option.map_none, reduceIte, decide_true, decide_false, Int.reduceLT, Int.reduceLE, Int.reduceMul, Int.reduceAdd, Int.reduceSub, h0, h1])
  simp only [aRes_none Try.results54]
  exact ⟨trivial, c⟩
def wHowB (hw a b : Int) : List Value := beTo (IntKind.u32.wrap hw) 4 ++ (if hw = 2 then beTo a 4 ++ beTo b 4 else [])
def wHowC (hw : Int) (t : Nat) (cs : List Value) : List Value := if hw = 2 then cs else (cs.set t (.int .u32 0)).set (t + 1) (.int .u32 0)
theorem CW.two {t : Nat} {a b : Value} (c : CW Z H0 h kc kw wv bs bad ((kt, cs, T) :: L)) (ho : t + 1 < cs.length) (h1 : a.oneCell' = true) (h2 : b.oneCell' = true) :
    ∃ h2, aStore Try.prog h 26 (pt kt t) (.agg #[a, b]) = some h2 ∧ CW Z H0 h2 kc kw wv bs bad ((kt, (cs.set t a).set (t + 1) b, T) :: L) := by
  have c' := WB.perm c (.swap _ _ _)
  have q := St_two c'.st.swap ho h1 h2
  exact ⟨_, q.1, WB.perm (c'.upd (Same.set1 h kt _) (Heap.get_set_eq c'.st.swap.hd)) (.swap _ _ _)⟩
theorem howW_am (o t : Nat) (hw a b : Int) (c : CW Z H0 h kc kw wv bs bad ((kt, cs, T) :: L)) (hv : cs[o]? = some (.int .i64 hw)) (ha : cs[t]? = some (.int .u32 a)) (ha0 : 0 ≤ a) (ha1 : a < 4294967296) (hb : cs[t + 1]? = some (.int .u32 b)) (hb0 : 0 ≤ b) (hb1 : b < 4294967296) (hlen : bs.length ≤ 600000000) :
    Cl Try.prog 74 [pt kc 0, pt kt o, pt kt t] h fun v h' => v = .tuple #[] ∧ ∃ v', CW Z H0 h' kc kw v' (bs ++ wHowB hw a b) (bad || !(decide (0 ≤ hw) && decide (hw ≤ 2))) ((kt, wHowC hw t cs, T) :: L) := by
  have ht : t + 1 < cs.length := (List.getElem?_eq_some_iff.1 hb).1
  refine Cl.enter Try.func74 rfl 19 Try.ntmps74 (by simp) ?_
  intro env hl ha
  have h0 : sl env 0 = pt kc 0 := ha 0 (by simp)
  have h1 : sl env 1 = pt kt o := ha 1 (by simp)
  have h2 : sl env 2 = pt kt t := ha 2 (by simp)
  clear ha
  repeat (first | (with_reducible refine Wp.st ?_; simp only [wS]) | with_reducible refine Wp.drawS (by decide +kernel) ?_ | simp (disch := (first | (simp only [List.length_set, hl]; omega) | omega | rfl)) only [walkA, walkB, bne_self_eq_false, beq_self_eq_true, Option.map_some, Option.map_none, reduceIte, decide_true, decide_false, Int.reduceLT, Int.reduceLE, Int.reduceMul, Int.reduceAdd, Int.reduceSub, h0, h1, h2])
  refine (numW_am Z H0 _ kc kw wv bs bad L kt cs T o 0 2 hw c hv (by omega)).mono ?_
  intro v h3 q
  rw [q.1]
  obtain ⟨v1, c1⟩ := q.2
  clear q
  have ld := CW.ld c1 Try.underlying3 (by simp) (by simp) o
  rw [hv] at ld
  by_cases h2' : hw = 2
  · have d : (hw == 2) = true := by simpa using h2'
    have e1 : wHowB hw a b = beTo (IntKind.u32.wrap hw) 4 ++ (beTo a 4 ++ beTo b 4) := by unfold wHowB; rw [if_pos h2']
    have e2 : wHowC hw t cs = cs := by unfold wHowC; rw [if_pos h2']
    rw [e1, e2, ← List.append_assoc]
    repeat (first | (with_reducible refine Wp.st ?_; simp only [wS]) | with_reducible refine Wp.drawS (by decide +kernel) ?_ | simp (disch := (first | (simp only [List.length_set, hl]; omega) | omega | rfl)) only [walkA, walkB, bne_self_eq_false, beq_self_eq_true, Option.map_some, Option.map_none, reduceIte, decide_true, decide_false, Int.reduceLT, Int.reduceLE, Int.reduceMul, Int.reduceAdd, Int.reduceSub, h0, h1, h2, ld, d])
    refine Wp.cond_true (by first | ((simp (disch := (first | (simp only [List.length_set, hl]; omega) | omega | rfl)) only [sL, aEval_tmp]); done) | ((simp (disch := (first | (simp only [List.length_set, hl]; omega) | omega | rfl)) only [sL, aEval_tmp]); rfl)) ?_
    repeat (first | (with_reducible refine Wp.st ?_; simp only [wS]) | with_reducible refine Wp.drawS (by decide +kernel) ?_ | simp (disch := (first | (simp only [List.length_set, hl]; omega) | omega | rfl)) only [walkA, walkB, bne_self_eq_false, beq_self_eq_true, Option.map_some, Option.map_none, reduceIte, decide_true, decide_false, Int.reduceLT, Int.reduceLE, Int.reduceMul, Int.reduceAdd, Int.reduceSub, h0, h1, h2])
    refine (timeW_am Z H0 _ kc kw v1 _ _ L kt cs T t a b c1 ha ha0 ha1 hb hb0 hb1 (by rw [List.length_append, beTo_length]; omega)).mono ?_
    intro v h4 q
    rw [q.1]
    have c2 := q.2
    clear q
    repeat (first | (with_reducible refine Wp.st ?_; simp only [wS]) | with_reducible refine Wp.drawS (by decide +kernel) ?_ | simp (disch := (first | (simp only [List.length_set, hl]; omega) | omega | rfl)) only [walkA, walkB, bne_self_eq_false, beq_self_eq_true, Option.map_some, Option.map_none, reduceIte, decide_true, decide_false, Int.reduceLT, Int.reduceLE, Int.reduceMul, Int.reduceAdd, Int.reduceSub, h0])
    simp only [aRes_none Try.results74]
    exact ⟨trivial, c2⟩
  · have d : (hw == 2) = false := by simpa using h2'
    have e1 : wHowB hw a b = beTo (IntKind.u32.wrap hw) 4 := by unfold wHowB; rw [if_neg h2', List.append_nil]
    have e2 : wHowC hw t cs = (cs.set t (.int .u32 0)).set (t + 1) (.int .u32 0) := by unfold wHowC; rw [if_neg h2']
    rw [e1, e2]
    obtain ⟨h4, p1, c2⟩ := CW.two _ _ _ _ _ _ _ _ _ _ _ _ c1 ht (a := .int .u32 0) (b := .int .u32 0) rfl rfl
    repeat (first | (with_reducible refine Wp.st ?_; simp only [wS]) | with_reducible refine Wp.drawS (by decide +kernel) ?_ | simp (disch := (first | (simp only [List.length_set, hl]; omega) | omega | rfl)) only [walkA, walkB, bne_self_eq_false, beq_self_eq_true, Option.map_some, Option.map_none, reduceIte, decide_true, decide_false, Int.reduceLT, Int.reduceLE, Int.reduceMul, Int.reduceAdd, Int.reduceSub, h0, h1, h2, ld, d])
    refine Wp.cond_false (by first | ((simp (disch := (first | (simp only [List.length_set, hl]; omega) | omega | rfl)) only [sL, aEval_tmp]); done) | ((simp (disch := (first | (simp only [List.length_set, hl]; omega) | omega | rfl)) only [sL, aEval_tmp]); rfl)) ?_
    repeat (first | (with_reducible refine Wp.st ?_; simp only [wS]) | with_reducible refine Wp.drawS (by decide +kernel) ?_ | simp (disch := (first | (simp only [List.length_set, hl]; omega) | omega | rfl)) only [walkA, walkB, bne_self_eq_false, beq_self_eq_true, Option.map_some, Option.map_none, reduceIte, decide_true, decide_false, Int.reduceLT, Int.reduceLE, Int.reduceMul, Int.reduceAdd, Int.reduceSub, h0, h1, h2, bTime, p1])
    simp only [aRes_none Try.results74]
    exact ⟨trivial, v1, c2⟩
end
end Go.Proofs.Ytanknjpcgceccaa

namespace Go.Proofs.Ytanknjpcgceccaa
open Go Go.AM
set_option linter.unusedSimpArgs false
set_option maxRecDepth 100000
attribute [local irreducible] WOps WV WH WSt WNil WPick WGd
structure SA where
  hm : Bool
  hu : Bool
  hg : Bool
  hs : Bool
  mode : Int
  uid : Int
  gid : Int
  size : Int
  ah : Int
  mh : Int
  a1 : Int
  a2 : Int
  m1 : Int
  m2 : Int
def SA.cells (s : SA) : List Value := [.bool s.hm, .bool s.hu, .bool s.hg, .bool s.hs, .int .i64 s.mode, .int .u32 s.uid, .int .u32 s.gid, .int .u64 s.size, .int .i64 s.ah, .int .i64 s.mh, .int .u32 s.a1, .int .u32 s.a2, .int .u32 s.m1, .int .u32 s.m2]
def u32r (x : Int) : Prop := 0 ≤ x ∧ x < 4294967296
structure SA.OK (s : SA) : Prop where
  uid : u32r s.uid
  gid : u32r s.gid
  a1 : u32r s.a1
  a2 : u32r s.a2
  m1 : u32r s.m1
  m2 : u32r s.m2
def wTr (b : Bool) : List Value := beTo (if b = true then 1 else 0) 4
def wOpt (b : Bool) (l : List Value) : List Value := wTr b ++ (if b = true then l else [])
def badIn (a b v : Int) : Bool := !(decide (a ≤ v) && decide (v ≤ b))
def wSetB (s : SA) : List Value := wOpt s.hm (beTo (IntKind.u32.wrap s.mode) 4) ++ wOpt s.hu (beTo s.uid 4) ++ wOpt s.hg (beTo s.gid 4) ++ wOpt s.hs (beTo s.size 8) ++ wHowB s.ah s.a1 s.a2 ++ wHowB s.mh s.m1 s.m2
def wSetBad (s : SA) : Bool := (s.hm && badIn 0 4294967295 s.mode) || badIn 0 2 s.ah || badIn 0 2 s.mh
def wSetC (s : SA) (o : Nat) (cs : List Value) : List Value := wHowC s.mh (o + 12) (wHowC s.ah (o + 10) cs)
theorem wTr_len (b : Bool) : (wTr b).length = 4 := beTo_length _ _
theorem wOpt_len (b : Bool) {l : List Value} (h : l.length ≤ 8) : (wOpt b l).length ≤ 12 := by
  unfold wOpt; rw [List.length_append, wTr_len]; split
  · omega
  · simp
theorem wHowB_len (a b c : Int) : (wHowB a b c).length ≤ 12 := by
  unfold wHowB; rw [List.length_append, beTo_length]; split <;> simp [beTo_length]
theorem wHowC_get {a : Int} {t p : Nat} {cs : List Value} (h1 : t ≠ p) (h2 : t + 1 ≠ p) : (wHowC a t cs)[p]? = cs[p]? := by
  unfold wHowC; split
  · rfl
  · rw [List.getElem?_set_ne h2, List.getElem?_set_ne h1]
def WQS (kc kt o : Nat) (A : Heap → Prop) : AX → List Value → Heap → Prop := fun ax e h' => ax = .normal ∧ e.length = 63 ∧ sl e 0 = pt kc 0 ∧ sl e 1 = pt kt o ∧ A h'
section
variable (Z : Nat → Prop) (H0 h : Heap) (kc kw : Nat) (wv : Value) (bs : List Value) (bad : Bool) (L : List Blk) (kt : Nat) (cs : List Value) (T : TypeId)
set_option maxHeartbeats 4000000 in
theorem setW_am (o : Nat) (s : SA) (hs : s.OK) (c : CW Z H0 h kc kw wv bs bad ((kt, cs, T) :: L)) (hv : ∀ i, i < 14 → cs[o + i]? = s.cells[i]?) (hlen : bs.length ≤ 500000000) :
    Cl Try.prog 52 [pt kc 0, pt kt o] h fun v h' => v = .tuple #[] ∧ ∃ v', CW Z H0 h' kc kw v' (bs ++ wSetB s) (bad || wSetBad s) ((kt, wSetC s o cs, T) :: L) := by
  refine Cl.enter Try.func52 rfl 63 Try.ntmps52 (by simp) ?_
  intro env hl ha
  have h0 : sl env 0 = pt kc 0 := ha 0 (by simp)
  have h1 : sl env 1 = pt kt o := ha 1 (by simp)
  clear ha
  obtain ⟨hm, hu, hg, hz, mode, uid, gid, size, ah, mh, a1, a2, m1, m2⟩ := s
  obtain ⟨⟨u1, u2⟩, ⟨g1, g2⟩, ⟨x1, x2⟩, ⟨x3, x4⟩, ⟨y1, y2⟩, ⟨y3, y4⟩⟩ := hs
  have k0 : cs[o]? = some (.bool hm) := hv 0 (by decide)
  have k1 : cs[o + 1]? = some (.bool hu) := hv 1 (by decide)
  have k2 : cs[o + 2]? = some (.bool hg) := hv 2 (by decide)
  have k3 : cs[o + 3]? = some (.bool hz) := hv 3 (by decide)
  have k4 : cs[o + 4]? = some (.int .i64 mode) := hv 4 (by decide)
  have k5 : cs[o + 5]? = some (.int .u32 uid) := hv 5 (by decide)
  have k6 : cs[o + 6]? = some (.int .u32 gid) := hv 6 (by decide)
  have k7 : cs[o + 7]? = some (.int .u64 size) := hv 7 (by decide)
  have k8 : cs[o + 8]? = some (.int .i64 ah) := hv 8 (by decide)
  have k9 : cs[o + 9]? = some (.int .i64 mh) := hv 9 (by decide)
  have k10 : cs[o + 10]? = some (.int .u32 a1) := hv 10 (by decide)
  have k11 : cs[o + 11]? = some (.int .u32 a2) := hv 11 (by decide)
  have k12 : cs[o + 12]? = some (.int .u32 m1) := hv 12 (by decide)
  have k13 : cs[o + 13]? = some (.int .u32 m2) := hv 13 (by decide)
  clear hv
  have q0 : ∃ b0 : List Value, b0 = bs := ⟨_, rfl⟩
  have hb0 : bs.length ≤ 500000000 + 12 * 0 := hlen
  repeat (first | (with_reducible refine Wp.st ?_; simp only [wS]) | with_reducible refine Wp.drawS (by decide +kernel) ?_ | simp (disch := (first | (simp only [List.length_set, hl]; omega) | omega | rfl)) only [walkA, walkB, bne_self_eq_false, beq_self_eq_true, Option.map_some, Option.map_none, reduceIte, decide_true, decide_false, Int.reduceLT, Int.reduceLE, Int.reduceMul, Int.reduceAdd, Int.reduceSub, h0, h1, faS0])
  refine (truthW_am Z H0 _ kc kw _ _ _ L kt cs T o hm c k0 (by have := hb0; omega)).mono ?_
  intro v hA q
  rw [q.1]
  obtain ⟨v1, c1⟩ := q.2
  clear q
  repeat (first | (with_reducible refine Wp.st ?_; simp only [wS]) | with_reducible refine Wp.drawS (by decide +kernel) ?_ | simp (disch := (first | (simp only [List.length_set, hl]; omega) | omega | rfl)) only [walkA, walkB, bne_self_eq_false, beq_self_eq_true, Option.map_some, Option.map_none, reduceIte, decide_true, decide_false, Int.reduceLT, Int.reduceLE, Int.reduceMul, Int.reduceAdd, Int.reduceSub, h0, h1])
  refine Wp.mono (Q := WQS kc kt o fun h' => ∃ v', CW Z H0 h' kc kw v' (bs ++ wOpt hm (beTo (IntKind.u32.wrap mode) 4)) (bad || (hm && badIn 0 4294967295 mode)) ((kt, cs, T) :: L)) ?_ ?_
  · cases hb : hm with
    | true =>
      rw [hb] at c1
      have e1 : wOpt true (beTo (IntKind.u32.wrap mode) 4) = beTo (if true = true then 1 else 0) 4 ++ beTo (IntKind.u32.wrap mode) 4 := rfl
      rw [e1, ← List.append_assoc]
      refine Wp.cond_true (by first | ((simp (disch := (first | (simp only [List.length_set, hl]; omega) | omega | rfl)) only [sL, aEval_tmp, hb]); done) | ((simp (disch := (first | (simp only [List.length_set, hl]; omega) | omega | rfl)) only [sL, aEval_tmp, hb]); rfl)) ?_
      repeat (first | (with_reducible refine Wp.st ?_; simp only [wS]) | with_reducible refine Wp.drawS (by decide +kernel) ?_ | simp (disch := (first | (simp only [List.length_set, hl]; omega) | omega | rfl)) only [walkA, walkB, bne_self_eq_false, beq_self_eq_true, Option.map_some, Option.map_none, reduceIte, decide_true, decide_false, Int.reduceLT, Int.reduceLE, Int.reduceMul, Int.reduceAdd, Int.reduceSub, h0, h1, faS4])
      refine (numW_am Z H0 _ kc kw v1 _ _ L kt cs T (o + 4) 0 4294967295 mode c1 k4 (by rw [List.length_append, beTo_length]; have := hb0; omega)).mono ?_
      intro v hB q
      rw [q.1]
      obtain ⟨v2, c2⟩ := q.2
      clear q
      repeat (first | (with_reducible refine Wp.st ?_; simp only [wS]) | with_reducible refine Wp.drawS (by decide +kernel) ?_ | simp (disch := (first | (simp only [List.length_set, hl]; omega) | omega | rfl)) only [walkA, walkB, bne_self_eq_false, beq_self_eq_true, Option.map_some, Option.map_none, reduceIte, decide_true, decide_false, Int.reduceLT, Int.reduceLE, Int.reduceMul, Int.reduceAdd, Int.reduceSub, h0, h1])
      exact ⟨rfl, by simp [hl], (by (simp (disch := (first | (simp only [List.length_set, hl]; omega) | omega | rfl)) only [sL, h0])), (by (simp (disch := (first | (simp only [List.length_set, hl]; omega) | omega | rfl)) only [sL, h1])), v2, c2⟩
    | false =>
      rw [hb] at c1
      have e1 : wOpt false (beTo (IntKind.u32.wrap mode) 4) = beTo (if false = true then 1 else 0) 4 := by simp [wOpt, wTr]
      rw [e1, Bool.false_and, Bool.or_false]
      refine Wp.cond_false (by first | ((simp (disch := (first | (simp only [List.length_set, hl]; omega) | omega | rfl)) only [sL, aEval_tmp, hb]); done) | ((simp (disch := (first | (simp only [List.length_set, hl]; omega) | omega | rfl)) only [sL, aEval_tmp, hb]); rfl)) ?_
      repeat (first | (with_reducible refine Wp.st ?_; simp only [wS]) | with_reducible refine Wp.drawS (by decide +kernel) ?_ | simp (disch := (first | (simp only [List.length_set, hl]; omega) | omega | rfl)) only [walkA, walkB, bne_self_eq_false, beq_self_eq_true, Option.map_some, Option.map_none, reduceIte, decide_true, decide_false, Int.reduceLT, Int.reduceLE, Int.reduceMul, Int.reduceAdd, Int.reduceSub, h0, h1])
      exact ⟨rfl, by simp [hl], (by (simp (disch := (first | (simp only [List.length_set, hl]; omega) | omega | rfl)) only [sL, h0])), (by (simp (disch := (first | (simp only [List.length_set, hl]; omega) | omega | rfl)) only [sL, h1])), v1, by simpa using c1⟩
  have hb1 : (bs ++ wOpt hm (beTo (IntKind.u32.wrap mode) 4)).length ≤ 500000000 + 12 * 1 := by have := hb0; have w := wOpt_len hm (l := beTo (IntKind.u32.wrap mode) 4) (by rw [beTo_length]; decide); simp only [List.length_append] at this ⊢; omega
  clear h0 h1 hl c c1 hA
  clear env
  intro ax env h q
  obtain ⟨hax, hl, h0, h1, wv, c⟩ := q
  rw [hax]
  clear hax
  repeat (first | (with_reducible refine Wp.st ?_; simp only [wS]) | with_reducible refine Wp.drawS (by decide +kernel) ?_ | simp (disch := (first | (simp only [List.length_set, hl]; omega) | omega | rfl)) only [walkA, walkB, bne_self_eq_false, beq_self_eq_true, Option.map_some, Option.map_none, reduceIte, decide_true, decide_false, Int.reduceLT, Int.reduceLE, Int.reduceMul, Int.reduceAdd, Int.reduceSub, h0, h1, faS1])
  refine (truthW_am Z H0 _ kc kw _ _ _ L kt cs T (o + 1) hu c k1 (by have := hb1; omega)).mono ?_
  intro v hA q
  rw [q.1]
  obtain ⟨v1, c1⟩ := q.2
  clear q
  repeat (first | (with_reducible refine Wp.st ?_; simp only [wS]) | with_reducible refine Wp.drawS (by decide +kernel) ?_ | simp (disch := (first | (simp only [List.length_set, hl]; omega) | omega | rfl)) only [walkA, walkB, bne_self_eq_false, beq_self_eq_true, Option.map_some, Option.map_none, reduceIte, decide_true, decide_false, Int.reduceLT, Int.reduceLE, Int.reduceMul, Int.reduceAdd, Int.reduceSub, h0, h1])
  refine Wp.mono (Q := WQS kc kt o fun h' => ∃ v', CW Z H0 h' kc kw v' (bs ++ wOpt hm (beTo (IntKind.u32.wrap mode) 4) ++ wOpt hu (beTo uid 4)) (bad || (hm && badIn 0 4294967295 mode)) ((kt, cs, T) :: L)) ?_ ?_
  · cases hb : hu with
    | true =>
      rw [hb] at c1
      have e1 : wOpt true (beTo uid 4) = beTo (if true = true then 1 else 0) 4 ++ beTo uid 4 := rfl
      rw [e1, ← List.append_assoc]
      refine Wp.cond_true (by first | ((simp (disch := (first | (simp only [List.length_set, hl]; omega) | omega | rfl)) only [sL, aEval_tmp, hb]); done) | ((simp (disch := (first | (simp only [List.length_set, hl]; omega) | omega | rfl)) only [sL, aEval_tmp, hb]); rfl)) ?_
      repeat (first | (with_reducible refine Wp.st ?_; simp only [wS]) | with_reducible refine Wp.drawS (by decide +kernel) ?_ | simp (disch := (first | (simp only [List.length_set, hl]; omega) | omega | rfl)) only [walkA, walkB, bne_self_eq_false, beq_self_eq_true, Option.map_some, Option.map_none, reduceIte, decide_true, decide_false, Int.reduceLT, Int.reduceLE, Int.reduceMul, Int.reduceAdd, Int.reduceSub, h0, h1, faS5, bp32])
      refine (u32W1 Z H0 _ kc kw v1 _ _ L kt cs T (o + 5) uid c1 k5 u1 u2 (by rw [List.length_append, beTo_length]; have := hb1; omega)).mono ?_
      intro v hB q
      rw [q.1]
      obtain ⟨v2, c2⟩ := q.2
      clear q
      repeat (first | (with_reducible refine Wp.st ?_; simp only [wS]) | with_reducible refine Wp.drawS (by decide +kernel) ?_ | simp (disch := (first | (simp only [List.length_set, hl]; omega) | omega | rfl)) only [walkA, walkB, bne_self_eq_false, beq_self_eq_true, Option.map_some, Option.map_none, reduceIte, decide_true, decide_false, Int.reduceLT, Int.reduceLE, Int.reduceMul, Int.reduceAdd, Int.reduceSub, h0, h1])
      exact ⟨rfl, by simp [hl], (by (simp (disch := (first | (simp only [List.length_set, hl]; omega) | omega | rfl)) only [sL, h0])), (by (simp (disch := (first | (simp only [List.length_set, hl]; omega) | omega | rfl)) only [sL, h1])), v2, c2⟩
    | false =>
      rw [hb] at c1
      have e1 : wOpt false (beTo uid 4) = beTo (if false = true then 1 else 0) 4 := by simp [wOpt, wTr]
      rw [e1]
      refine Wp.cond_false (by first | ((simp (disch := (first | (simp only [List.length_set, hl]; omega) | omega | rfl)) only [sL, aEval_tmp, hb]); done) | ((simp (disch := (first | (simp only [List.length_set, hl]; omega) | omega | rfl)) only [sL, aEval_tmp, hb]); rfl)) ?_
      repeat (first | (with_reducible refine Wp.st ?_; simp only [wS]) | with_reducible refine Wp.drawS (by decide +kernel) ?_ | simp (disch := (first | (simp only [List.length_set, hl]; omega) | omega | rfl)) only [walkA, walkB, bne_self_eq_false, beq_self_eq_true, Option.map_some, Option.map_none, reduceIte, decide_true, decide_false, Int.reduceLT, Int.reduceLE, Int.reduceMul, Int.reduceAdd, Int.reduceSub, h0, h1])
      exact ⟨rfl, by simp [hl], (by (simp (disch := (first | (simp only [List.length_set, hl]; omega) | omega | rfl)) only [sL, h0])), (by (simp (disch := (first | (simp only [List.length_set, hl]; omega) | omega | rfl)) only [sL, h1])), v1, by simpa using c1⟩
  have hb2 : (bs ++ wOpt hm (beTo (IntKind.u32.wrap mode) 4) ++ wOpt hu (beTo uid 4)).length ≤ 500000000 + 12 * 2 := by have := hb1; have w := wOpt_len hu (l := beTo uid 4) (by rw [beTo_length]; decide); simp only [List.length_append] at this ⊢; omega
  clear h0 h1 hl c c1 hA
  clear env
  intro ax env h q
  obtain ⟨hax, hl, h0, h1, wv, c⟩ := q
  rw [hax]
  clear hax
  repeat (first | (with_reducible refine Wp.st ?_; simp only [wS]) | with_reducible refine Wp.drawS (by decide +kernel) ?_ | simp (disch := (first | (simp only [List.length_set, hl]; omega) | omega | rfl)) only [walkA, walkB, bne_self_eq_false, beq_self_eq_true, Option.map_some, Option.map_none, reduceIte, decide_true, decide_false, Int.reduceLT, Int.reduceLE, Int.reduceMul, Int.reduceAdd, Int.reduceSub, h0, h1, faS2])
  refine (truthW_am Z H0 _ kc kw _ _ _ L kt cs T (o + 2) hg c k2 (by have := hb2; omega)).mono ?_
  intro v hA q
  rw [q.1]
  obtain ⟨v1, c1⟩ := q.2
  clear q
  repeat (first | (with_reducible refine Wp.st ?_; simp only [wS]) | with_reducible refine Wp.drawS (by decide +kernel) ?_ | simp (disch := (first | (simp only [List.length_set, hl]; omega) | omega | rfl)) only [walkA, walkB, bne_self_eq_false, beq_self_eq_true, Option.map_some, Option.map_none, reduceIte, decide_true, decide_false, Int.reduceLT, Int.reduceLE, Int.reduceMul, Int.reduceAdd, Int.reduceSub, h0, h1])
  refine Wp.mono (Q := WQS kc kt o fun h' => ∃ v', CW Z H0 h' kc kw v' (bs ++ wOpt hm (beTo (IntKind.u32.wrap mode) 4) ++ wOpt hu (beTo uid 4) ++ wOpt hg (beTo gid 4)) (bad || (hm && badIn 0 4294967295 mode)) ((kt, cs, T) :: L)) ?_ ?_
  · cases hb : hg with
    | true =>
      rw [hb] at c1
      have e1 : wOpt true (beTo gid 4) = beTo (if true = true then 1 else 0) 4 ++ beTo gid 4 := rfl
      rw [e1, ← List.append_assoc]
      refine Wp.cond_true (by first | ((simp (disch := (first | (simp only [List.length_set, hl]; omega) | omega | rfl)) only [sL, aEval_tmp, hb]); done) | ((simp (disch := (first | (simp only [List.length_set, hl]; omega) | omega | rfl)) only [sL, aEval_tmp, hb]); rfl)) ?_
      repeat (first | (with_reducible refine Wp.st ?_; simp only [wS]) | with_reducible refine Wp.drawS (by decide +kernel) ?_ | simp (disch := (first | (simp only [List.length_set, hl]; omega) | omega | rfl)) only [walkA, walkB, bne_self_eq_false, beq_self_eq_true, Option.map_some, Option.map_none, reduceIte, decide_true, decide_false, Int.reduceLT, Int.reduceLE, Int.reduceMul, Int.reduceAdd, Int.reduceSub, h0, h1, faS6, bp32])
      refine (u32W1 Z H0 _ kc kw v1 _ _ L kt cs T (o + 6) gid c1 k6 g1 g2 (by rw [List.length_append, beTo_length]; have := hb2; omega)).mono ?_
      intro v hB q
      rw [q.1]
      obtain ⟨v2, c2⟩ := q.2
      clear q
      repeat (first | (with_reducible refine Wp.st ?_; simp only [wS]) | with_reducible refine Wp.drawS (by decide +kernel) ?_ | simp (disch := (first | (simp only [List.length_set, hl]; omega) | omega | rfl)) only [walkA, walkB, bne_self_eq_false, beq_self_eq_true, Option.map_some, Option.map_none, reduceIte, decide_true, decide_false, Int.reduceLT, Int.reduceLE, Int.reduceMul, Int.reduceAdd, Int.reduceSub, h0, h1])
      exact ⟨rfl, by simp [hl], (by (simp (disch := (first | (simp only [List.length_set, hl]; omega) | omega | rfl)) only [sL, h0])), (by (simp (disch := (first | (simp only [List.length_set, hl]; omega) | omega | rfl)) only [sL, h1])), v2, c2⟩
    | false =>
      rw [hb] at c1
      have e1 : wOpt false (beTo gid 4) = beTo (if false = true then 1 else 0) 4 := by simp [wOpt, wTr]
      rw [e1]
      refine Wp.cond_false (by first | ((simp (disch := (first | (simp only [List.length_set, hl]; omega) | omega | rfl)) only [sL, aEval_tmp, hb]); done) | ((simp (disch := (first | (simp only [List.length_set, hl]; omega) | omega | rfl)) only [sL, aEval_tmp, hb]); rfl)) ?_
      repeat (first | (with_reducible refine Wp.st ?_; simp only [wS]) | with_reducible refine Wp.drawS (by decide +kernel) ?_ | simp (disch := (first | (simp only [List.length_set, hl]; omega) | omega | rfl)) only [walkA, walkB, bne_self_eq_false, beq_self_eq_true, Option.map_some, Option.map_none, reduceIte, decide_true, decide_false, Int.reduceLT, Int.reduceLE, Int.reduceMul, Int.reduceAdd, Int.reduceSub, h0, h1])
      exact ⟨rfl, by simp [hl], (by (simp (disch := (first | (simp only [List.length_set, hl]; omega) | omega | rfl)) only [sL, h0])), (by (simp (disch := (first | (simp only [List.length_set, hl]; omega) | omega | rfl)) only [sL, h1])), v1, by simpa using c1⟩
  have hb3 : (bs ++ wOpt hm (beTo (IntKind.u32.wrap mode) 4) ++ wOpt hu (beTo uid 4) ++ wOpt hg (beTo gid 4)).length ≤ 500000000 + 12 * 3 := by have := hb2; have w := wOpt_len hg (l := beTo gid 4) (by rw [beTo_length]; decide); simp only [List.length_append] at this ⊢; omega
  clear h0 h1 hl c c1 hA
  clear env
  intro ax env h q
  obtain ⟨hax, hl, h0, h1, wv, c⟩ := q
  rw [hax]
  clear hax
  repeat (first | (with_reducible refine Wp.st ?_; simp only [wS]) | with_reducible refine Wp.drawS (by decide +kernel) ?_ | simp (disch := (first | (simp only [List.length_set, hl]; omega) | omega | rfl)) only [walkA, walkB, bne_self_eq_false, beq_self_eq_true, Option.map_some, Option.map_none, reduceIte, decide_true, decide_false, Int.reduceLT, Int.reduceLE, Int.reduceMul, Int.reduceAdd, Int.reduceSub, h0, h1, faS3])
  refine (truthW_am Z H0 _ kc kw _ _ _ L kt cs T (o + 3) hz c k3 (by have := hb3; omega)).mono ?_
  intro v hA q
  rw [q.1]
  obtain ⟨v1, c1⟩ := q.2
  clear q
  repeat (first | (with_reducible refine Wp.st ?_; simp only [wS]) | with_reducible refine Wp.drawS (by decide +kernel) ?_ | simp (disch := (first | (simp only [List.length_set, hl]; omega) | omega | rfl)) only [walkA, walkB, bne_self_eq_false, beq_self_eq_true, Option.map_some, Option.map_none, reduceIte, decide_true, decide_false, Int.reduceLT, Int.reduceLE, Int.reduceMul, Int.reduceAdd, Int.reduceSub, h0, h1])
  refine Wp.mono (Q := WQS kc kt o fun h' => ∃ v', CW Z H0 h' kc kw v' (bs ++ wOpt hm (beTo (IntKind.u32.wrap mode) 4) ++ wOpt hu (beTo uid 4) ++ wOpt hg (beTo gid 4) ++ wOpt hz (beTo size 8)) (bad || (hm && badIn 0 4294967295 mode)) ((kt, cs, T) :: L)) ?_ ?_
  · cases hb : hz with
    | true =>
      rw [hb] at c1
      have e1 : wOpt true (beTo size 8) = beTo (if true = true then 1 else 0) 4 ++ beTo size 8 := rfl
      rw [e1, ← List.append_assoc]
      refine Wp.cond_true (by first | ((simp (disch := (first | (simp only [List.length_set, hl]; omega) | omega | rfl)) only [sL, aEval_tmp, hb]); done) | ((simp (disch := (first | (simp only [List.length_set, hl]; omega) | omega | rfl)) only [sL, aEval_tmp, hb]); rfl)) ?_
      repeat (first | (with_reducible refine Wp.st ?_; simp only [wS]) | with_reducible refine Wp.drawS (by decide +kernel) ?_ | simp (disch := (first | (simp only [List.length_set, hl]; omega) | omega | rfl)) only [walkA, walkB, bne_self_eq_false, beq_self_eq_true, Option.map_some, Option.map_none, reduceIte, decide_true, decide_false, Int.reduceLT, Int.reduceLE, Int.reduceMul, Int.reduceAdd, Int.reduceSub, h0, h1, faS7, bp64])
      refine (u64W1 Z H0 _ kc kw v1 _ _ L kt cs T (o + 7) size c1 k7 (by rw [List.length_append, beTo_length]; have := hb3; omega)).mono ?_
      intro v hB q
      rw [q.1]
      obtain ⟨v2, c2⟩ := q.2
      clear q
      repeat (first | (with_reducible refine Wp.st ?_; simp only [wS]) | with_reducible refine Wp.drawS (by decide +kernel) ?_ | simp (disch := (first | (simp only [List.length_set, hl]; omega) | omega | rfl)) only [walkA, walkB, bne_self_eq_false, beq_self_eq_true, Option.map_some, Option.map_none, reduceIte, decide_true, decide_false, Int.reduceLT, Int.reduceLE, Int.reduceMul, Int.reduceAdd, Int.reduceSub, h0, h1])
      exact ⟨rfl, by simp [hl], (by (simp (disch := (first | (simp only [List.length_set, hl]; omega) | omega | rfl)) only [sL, h0])), (by (simp (disch := (first | (simp only [List.length_set, hl]; omega) | omega | rfl)) only [sL, h1])), v2, c2⟩
    | false =>
      rw [hb] at c1
      have e1 : wOpt false (beTo size 8) = beTo (if false = true then 1 else 0) 4 := by simp [wOpt, wTr]
      rw [e1]
      refine Wp.cond_false (by first | ((simp (disch := (first | (simp only [List.length_set, hl]; omega) | omega | rfl)) only [sL, aEval_tmp, hb]); done) | ((simp (disch := (first | (simp only [List.length_set, hl]; omega) | omega | rfl)) only [sL, aEval_tmp, hb]); rfl)) ?_
      repeat (first | (with_reducible refine Wp.st ?_; simp only [wS]) | with_reducible refine Wp.drawS (by decide +kernel) ?_ | simp (disch := (first | (simp only [List.length_set, hl]; omega) | omega | rfl)) only [walkA, walkB, bne_self_eq_false, beq_self_eq_true, Option.map_some, Option.map_none, reduceIte, decide_true, decide_false, Int.reduceLT, Int.reduceLE, Int.reduceMul, Int.reduceAdd, Int.reduceSub, h0, h1])
      exact ⟨rfl, by simp [hl], (by (simp (disch := (first | (simp only [List.length_set, hl]; omega) | omega | rfl)) only [sL, h0])), (by (simp (disch := (first | (simp only [List.length_set, hl]; omega) | omega | rfl)) only [sL, h1])), v1, by simpa using c1⟩
  have hb4 : (bs ++ wOpt hm (beTo (IntKind.u32.wrap mode) 4) ++ wOpt hu (beTo uid 4) ++ wOpt hg (beTo gid 4) ++ wOpt hz (beTo size 8)).length ≤ 500000000 + 12 * 4 := by have := hb3; have w := wOpt_len hz (l := beTo size 8) (by rw [beTo_length]; decide); simp only [List.length_append] at this ⊢; omega
  clear h0 h1 hl c c1 hA
  clear env
  intro ax env h q
  obtain ⟨hax, hl, h0, h1, wv, c⟩ := q
  rw [hax]
  clear hax
  repeat (first | (with_reducible refine Wp.st ?_; simp only [wS]) | with_reducible refine Wp.drawS (by decide +kernel) ?_ | simp (disch := (first | (simp only [List.length_set, hl]; omega) | omega | rfl)) only [walkA, walkB, bne_self_eq_false, beq_self_eq_true, Option.map_some, Option.map_none, reduceIte, decide_true, decide_false, Int.reduceLT, Int.reduceLE, Int.reduceMul, Int.reduceAdd, Int.reduceSub, h0, h1, faS8, faS10])
  refine (howW_am Z H0 _ kc kw wv _ _ L kt cs T (o + 8) (o + 10) ah a1 a2 c k8 k10 x1 x2 k11 x3 x4 (by omega)).mono ?_
  intro v hA q
  rw [q.1]
  obtain ⟨v1, c1⟩ := q.2
  clear q
  have j9 : (wHowC ah (o + 10) cs)[o + 9]? = some (.int .i64 mh) := by rw [wHowC_get (by omega) (by omega)]; exact k9
  have j12 : (wHowC ah (o + 10) cs)[o + 12]? = some (.int .u32 m1) := by rw [wHowC_get (by omega) (by omega)]; exact k12
  have j13 : (wHowC ah (o + 10) cs)[o + 12 + 1]? = some (.int .u32 m2) := by rw [wHowC_get (by omega) (by omega)]; exact k13
  repeat (first | (with_reducible refine Wp.st ?_; simp only [wS]) | with_reducible refine Wp.drawS (by decide +kernel) ?_ | simp (disch := (first | (simp only [List.length_set, hl]; omega) | omega | rfl)) only [walkA, walkB, bne_self_eq_false, beq_self_eq_true, Option.map_some, Option.map_none, reduceIte, decide_true, decide_false, Int.reduceLT, Int.reduceLE, Int.reduceMul, Int.reduceAdd, Int.reduceSub, h0, h1, faS9, faS11])
  refine (howW_am Z H0 _ kc kw v1 _ _ L kt _ T (o + 9) (o + 12) mh m1 m2 c1 j9 j12 y1 y2 j13 y3 y4 (by rw [List.length_append]; have := wHowB_len ah a1 a2; omega)).mono ?_
  intro v hB q
  rw [q.1]
  obtain ⟨v2, c2⟩ := q.2
  clear q
  repeat (first | (with_reducible refine Wp.st ?_; simp only [wS]) | with_reducible refine Wp.drawS (by decide +kernel) ?_ | simp (disch := (first | (simp only [List.length_set, hl]; omega) | omega | rfl)) only [walkA, walkB, bne_self_eq_false, beq_self_eq_true, Option.map_some, Option.map_none, reduceIte, decide_true, decide_false, Int.reduceLT, Int.reduceLE, Int.reduceMul, Int.reduceAdd, Int.reduceSub, h0])
  simp only [aRes_none Try.results52]
  refine ⟨trivial, v2, ?_⟩
  simpa [wSetB, wSetBad, wSetC, badIn, Bool.or_assoc] using c2
end
end Go.Proofs.Ytanknjpcgceccaa

namespace Go.Proofs.Ytanknjpcgceccaa
open Go Go.AM
set_option linter.unusedSimpArgs false
set_option maxRecDepth 100000
theorem intsOf_str : ∀ l : List UInt8, intsOf (l.map fun b => Value.int .u8 b.toNat) = some (l.map fun b => (b.toNat : Int))
  | [] => rfl
  | b :: l => by simp only [List.map_cons, intsOf, intsOf_str l]
theorem strS_str (s : ByteArray) : strS (strB s) = s := by
  unfold strS strB
  rw [intsOf_str]
  show strOfNums _ = s
  unfold strOfNums
  rw [List.map_map]
  have : (s.data.toList.map ((fun n : Int => UInt8.ofNat n.toNat) ∘ fun b : UInt8 => (b.toNat : Int))) = s.data.toList := by
    conv => rhs; rw [← List.map_id s.data.toList]
    exact List.map_congr_left fun b _ => by simp
  rw [this]
theorem isB_str (s : ByteArray) : isB (strB s) := ⟨_, intsOf_str _⟩
theorem cvBack (s : ByteArray) (h : Heap) (v : Value) (r : Row h v (strB s)) : aConv Try.prog h 22 9 v = some (.string s, h) := by
  rw [conv_row r (isB_str s), strS_str]
structure AR where
  file : ByteArray
  to : ByteArray
  name : ByteArray
  toName : ByteArray
  path : ByteArray
  set : SA
  guard : Bool
  g1 : Int
  g2 : Int
  access : Int
  offset : Int
  count : Int
  stable : Int
  mode : Int
  type : Int
  dv : Value
  data : List Value
  verf : Int
  cookie : Int
  cookieVerf : Int
  dirCount : Int
  maxCount : Int
  spec1 : Int
  spec2 : Int
def AR.cells (a : AR) : List Value :=
  [.string a.file, .string a.to, .string a.name, .string a.toName, .string a.path] ++ a.set.cells ++
  [.bool a.guard, .int .u32 a.g1, .int .u32 a.g2, .int .u32 a.access, .int .u64 a.offset, .int .u32 a.count, .int .i64 a.stable, .int .i64 a.mode, .int .i64 a.type, a.dv, .int .u64 a.verf, .int .u64 a.cookie, .int .u64 a.cookieVerf, .int .u32 a.dirCount, .int .u32 a.maxCount, .int .u32 a.spec1, .int .u32 a.spec2]
structure WS where
  bs : List Value
  bad : Bool
def wU32 (n : Int) (x : WS) : WS := ⟨x.bs ++ beTo n 4, x.bad⟩
def wU64 (n : Int) (x : WS) : WS := ⟨x.bs ++ beTo n 8, x.bad⟩
def wBool (b : Bool) (x : WS) : WS := ⟨x.bs ++ wTr b, x.bad⟩
def wNum (a b n : Int) (x : WS) : WS := ⟨x.bs ++ beTo (IntKind.u32.wrap n) 4, x.bad || badIn a b n⟩
def wRow (most : Int) (l : List Value) (x : WS) : WS := ⟨x.bs ++ (beTo l.length 4 ++ (l ++ padB l.length)), x.bad || !(decide ((l.length : Int) ≤ most))⟩
def wText (most : Int) (s : ByteArray) (x : WS) : WS := ⟨x.bs ++ (beTo s.size 4 ++ (strB s ++ padB s.size)), x.bad || !(decide ((s.size : Int) ≤ most))⟩
def wSet (s : SA) (x : WS) : WS := ⟨x.bs ++ wSetB s, x.bad || wSetBad s⟩
end Go.Proofs.Ytanknjpcgceccaa

namespace Go.Proofs.Ytanknjpcgceccaa
open Go Go.AM
set_option linter.unusedSimpArgs false
set_option maxRecDepth 100000
attribute [local irreducible] WOps WV WH WSt WNil WPick WGd
def CWS (Z : Nat → Prop) (H0 h : Heap) (kc kw : Nat) (x : WS) (kt : Nat) (cs : List Value) (T : TypeId) (L : List Blk) : Prop := ∃ wv, CW Z H0 h kc kw wv x.bs x.bad ((kt, cs, T) :: L)
def small9 (x : WS) : Prop := x.bs.length ≤ 900000
section
variable {Z : Nat → Prop} {H0 h : Heap} {kc kw : Nat} {x : WS} {L : List Blk} {kt : Nat} {cs : List Value} {T : TypeId}
theorem CWS.ld {t : TypeId} {d : TypeDesc} (c : CWS Z H0 h kc kw x kt cs T L) (hu : Try.prog.underlying t = some d) (h1 : ∀ fs, d ≠ .struct fs) (h2 : ∀ n e, d ≠ .array n e) (o : Nat) : aLoad Try.prog h t (pt kt o) = cs[o]? := by
  obtain ⟨wv, c⟩ := c
  exact CW.ld c hu h1 h2 o
theorem CWS.lw (c : CWS Z H0 h kc kw x kt cs T L) : aLoad Try.prog h 67 (.pointer (some ⟨kc, 0 + 1, none⟩)) = some (pt kw 0) := by
  obtain ⟨wv, c⟩ := c
  exact CW.lw c
theorem textWS {o : Nat} {most : Int} {s0 : ByteArray} (c : CWS Z H0 h kc kw x kt cs T L) (hv : cs[o]? = some (.string s0)) (hs0 : s0.size ≤ 40000) (hl : small9 x) :
    Cl Try.prog 51 [pt kc 0, pt kt o, .int .i64 most] h fun v h' => v = .tuple #[] ∧ CWS Z H0 h' kc kw (wText most s0 x) kt cs T L := by
  obtain ⟨wv, c⟩ := c
  exact textW_am Z H0 h kc kw wv _ _ L kt cs T o most s0 c hv hs0 hl (cvBack s0)
theorem numWS {o : Nat} {a b v0 : Int} (c : CWS Z H0 h kc kw x kt cs T L) (hv : cs[o]? = some (.int .i64 v0)) (hl : small9 x) :
    Cl Try.prog 57 [pt kc 0, pt kt o, .int .i64 a, .int .i64 b] h fun v h' => v = .tuple #[] ∧ CWS Z H0 h' kc kw (wNum a b v0 x) kt cs T L := by
  obtain ⟨wv, c⟩ := c
  exact numW_am Z H0 h kc kw wv _ _ L kt cs T o a b v0 c hv (Nat.le_trans hl (by decide))
theorem truthWS {o : Nat} {b : Bool} (c : CWS Z H0 h kc kw x kt cs T L) (hv : cs[o]? = some (.bool b)) (hl : small9 x) :
    Cl Try.prog 53 [pt kc 0, pt kt o] h fun v h' => v = .bool b ∧ CWS Z H0 h' kc kw (wBool b x) kt cs T L := by
  obtain ⟨wv, c⟩ := c
  exact truthW_am Z H0 h kc kw wv _ _ L kt cs T o b c hv (Nat.le_trans hl (by decide))
theorem u32WS1 {o : Nat} {n : Int} (c : CWS Z H0 h kc kw x kt cs T L) (hv : cs[o]? = some (.int .u32 n)) (hn : u32r n) (hl : small9 x) :
    Cl Try.prog 55 [pt kc 0, .slice (some ⟨h.next, 0, none⟩) 1 1] (h.push (.cells [pt kt o] 123 false)) fun v h' => v = .tuple #[] ∧ CWS Z H0 h' kc kw (wU32 n x) kt cs T L := by
  obtain ⟨wv, c⟩ := c
  exact u32W1 Z H0 h kc kw wv _ _ L kt cs T o n c hv hn.1 hn.2 (Nat.le_trans hl (by decide))
theorem u64WS1 {o : Nat} {n : Int} (c : CWS Z H0 h kc kw x kt cs T L) (hv : cs[o]? = some (.int .u64 n)) (hl : small9 x) :
    Cl Try.prog 56 [pt kc 0, .slice (some ⟨h.next, 0, none⟩) 1 1] (h.push (.cells [pt kt o] 125 false)) fun v h' => v = .tuple #[] ∧ CWS Z H0 h' kc kw (wU64 n x) kt cs T L := by
  obtain ⟨wv, c⟩ := c
  exact u64W1 Z H0 h kc kw wv _ _ L kt cs T o n c hv (Nat.le_trans hl (by decide))
theorem u32WS2 {o p : Nat} {n m : Int} (c : CWS Z H0 h kc kw x kt cs T L) (hv : cs[o]? = some (.int .u32 n)) (hn : u32r n) (hv2 : cs[p]? = some (.int .u32 m)) (hm : u32r m) (hl : small9 x) :
    Cl Try.prog 55 [pt kc 0, .slice (some ⟨h.next, 0, none⟩) 2 2] (h.push (.cells [pt kt o, pt kt p] 123 false)) fun v h' => v = .tuple #[] ∧ CWS Z H0 h' kc kw (wU32 m (wU32 n x)) kt cs T L := by
  obtain ⟨wv, c⟩ := c
  refine (u32W2 Z H0 h kc kw wv _ _ L kt cs T o p n m c hv hn.1 hn.2 hv2 hm.1 hm.2 (Nat.le_trans hl (by decide))).mono fun v h' q => ⟨q.1, ?_⟩
  obtain ⟨v', c'⟩ := q.2
  exact ⟨v', by simpa [wU32] using c'⟩
theorem u64WS2 {o p : Nat} {n m : Int} (c : CWS Z H0 h kc kw x kt cs T L) (hv : cs[o]? = some (.int .u64 n)) (hv2 : cs[p]? = some (.int .u64 m)) (hl : small9 x) :
    Cl Try.prog 56 [pt kc 0, .slice (some ⟨h.next, 0, none⟩) 2 2] (h.push (.cells [pt kt o, pt kt p] 125 false)) fun v h' => v = .tuple #[] ∧ CWS Z H0 h' kc kw (wU64 m (wU64 n x)) kt cs T L := by
  obtain ⟨wv, c⟩ := c
  refine (u64W2 Z H0 h kc kw wv _ _ L kt cs T o p n m c hv hv2 (Nat.le_trans hl (by decide))).mono fun v h' q => ⟨q.1, ?_⟩
  obtain ⟨v', c'⟩ := q.2
  exact ⟨v', by simpa [wU64] using c'⟩
theorem timeWS {o : Nat} {n m : Int} (c : CWS Z H0 h kc kw x kt cs T L) (hv : cs[o]? = some (.int .u32 n)) (hn : u32r n) (hv2 : cs[o + 1]? = some (.int .u32 m)) (hm : u32r m) (hl : small9 x) :
    Cl Try.prog 54 [pt kc 0, pt kt o] h fun v h' => v = .tuple #[] ∧ CWS Z H0 h' kc kw (wU32 m (wU32 n x)) kt cs T L := by
  obtain ⟨wv, c⟩ := c
  refine (timeW_am Z H0 h kc kw wv _ _ L kt cs T o n m c hv hn.1 hn.2 hv2 hm.1 hm.2 (Nat.le_trans hl (by decide))).mono fun v h' q => ⟨q.1, ?_⟩
  obtain ⟨v', c'⟩ := q.2
  exact ⟨v', by simpa [wU32] using c'⟩
theorem setWS {o : Nat} {s : SA} (hs : s.OK) (c : CWS Z H0 h kc kw x kt cs T L) (hv : ∀ i, i < 14 → cs[o + i]? = s.cells[i]?) (hl : small9 x) :
    Cl Try.prog 52 [pt kc 0, pt kt o] h fun v h' => v = .tuple #[] ∧ CWS Z H0 h' kc kw (wSet s x) kt (wSetC s o cs) T L := by
  obtain ⟨wv, c⟩ := c
  exact setW_am Z H0 h kc kw wv _ _ L kt cs T o s hs c hv (Nat.le_trans hl (by decide))
end
end Go.Proofs.Ytanknjpcgceccaa

namespace Go.Proofs.Ytanknjpcgceccaa
open Go Go.AM
set_option linter.unusedSimpArgs false
set_option maxRecDepth 100000
attribute [local irreducible] WOps WV WH WSt WNil WPick WGd
def Sm (n : Nat) (x : WS) : Prop := x.bs.length ≤ n * 31000
section
variable {n : Nat} {x : WS}
theorem Sm.s9 (h : Sm 29 x) : small9 x := by unfold Sm at h; unfold small9; omega
theorem Sm.le {m : Nat} (h : Sm n x) (hn : n ≤ m) : Sm m x := by unfold Sm at *; omega
theorem padB_le (k : Nat) : (padB k).length ≤ 3 := by rw [padB_length]; unfold pad; omega
theorem sm_u32 {v : Int} (h : Sm n x) : Sm (n + 1) (wU32 v x) := by
  unfold Sm at *; simp only [wU32, List.length_append, beTo_length]; omega
theorem sm_u64 {v : Int} (h : Sm n x) : Sm (n + 1) (wU64 v x) := by
  unfold Sm at *; simp only [wU64, List.length_append, beTo_length]; omega
theorem sm_bool {b : Bool} (h : Sm n x) : Sm (n + 1) (wBool b x) := by
  unfold Sm at *; simp only [wBool, wTr, List.length_append, beTo_length]; omega
theorem sm_num {a b v : Int} (h : Sm n x) : Sm (n + 1) (wNum a b v x) := by
  unfold Sm at *; simp only [wNum, List.length_append, beTo_length]; omega
theorem sm_text {m : Int} {s : ByteArray} (hs : s.size ≤ 30000) (h : Sm n x) : Sm (n + 1) (wText m s x) := by
  unfold Sm at *
  have := padB_le s.size
  simp only [wText, List.length_append, beTo_length, strB_len]; omega
theorem sm_row {m : Int} {l : List Value} (hs : l.length ≤ 30000) (h : Sm n x) : Sm (n + 1) (wRow m l x) := by
  unfold Sm at *
  have := padB_le l.length
  simp only [wRow, List.length_append, beTo_length]; omega
theorem sm_set {s : SA} (h : Sm n x) : Sm (n + 1) (wSet s x) := by
  unfold Sm at *
  have h1 := wOpt_len s.hm (l := beTo (IntKind.u32.wrap s.mode) 4) (by rw [beTo_length]; omega)
  have h2 := wOpt_len s.hu (l := beTo s.uid 4) (by rw [beTo_length]; omega)
  have h3 := wOpt_len s.hg (l := beTo s.gid 4) (by rw [beTo_length]; omega)
  have h4 := wOpt_len s.hs (l := beTo s.size 8) (by rw [beTo_length]; omega)
  have h5 := wHowB_len s.ah s.a1 s.a2
  have h6 := wHowB_len s.mh s.m1 s.m2
  simp only [wSet, wSetB, List.length_append]; omega
end
theorem wSetC_get {s : SA} {o p : Nat} {cs : List Value} (h : p < o + 10 ∨ o + 14 ≤ p) : (wSetC s o cs)[p]? = cs[p]? := by
  unfold wSetC; rw [wHowC_get (by omega) (by omega), wHowC_get (by omega) (by omega)]
structure AR.OK (a : AR) : Prop where
  set : a.set.OK
  g1 : u32r a.g1
  g2 : u32r a.g2
  access : u32r a.access
  count : u32r a.count
  dirCount : u32r a.dirCount
  maxCount : u32r a.maxCount
  spec1 : u32r a.spec1
  spec2 : u32r a.spec2
  file : a.file.size ≤ 30000
  to : a.to.size ≤ 30000
  name : a.name.size ≤ 30000
  toName : a.toName.size ≤ 30000
  path : a.path.size ≤ 30000
  data : a.data.length ≤ 30000
  dOne : a.data.all Value.oneCell' = true
  dSl : ∃ b n c, a.dv = .slice b n c
def wNamed (p : Int) (a : AR) (x : WS) : WS :=
  if p = 8 then (if a.mode = 2 then wU64 a.verf (wNum 0 2 a.mode x) else wSet a.set (wNum 0 2 a.mode x))
  else if p = 9 then wSet a.set x
  else if p = 10 then wText 1024 a.path (wSet a.set x)
  else if p = 11 then (if a.type = 3 ∨ a.type = 4 then wU32 a.spec2 (wU32 a.spec1 (wSet a.set (wNum 1 7 a.type x))) else if a.type = 6 ∨ a.type = 7 then wSet a.set (wNum 1 7 a.type x) else wNum 1 7 a.type x)
  else if p = 14 then wText 255 a.toName (wText 64 a.to x)
  else x
section
variable {Z : Nat → Prop} {H0 h : Heap} {kc kw : Nat} {x : WS} {L : List Blk} {kt : Nat} {T : TypeId} {a : AR}
theorem CWS.ldI {cs : List Value} (c : CWS Z H0 h kc kw x kt cs T L) (o : Nat) : aLoad Try.prog h 3 (pt kt o) = cs[o]? := c.ld Try.underlying3 (by simp) (by simp) o
theorem CWS.dat {cs : List Value} {dv : Value} {ds : List Value} (r : Row H0 dv ds) (hz : ∀ a n c, dv = .slice (some a) n c → n ≠ 0 → Z a.block) : ∀ h' v' bs' b' L', CW Z H0 h' kc kw v' bs' b' (L' ++ (kt, cs, T) :: L) → Off h' v' kw dv ds := fun h' v' bs' b' L' c =>
  ⟨c.st.stayed r hz, fun a n d e hn => ⟨fun hh => hh.elim (fun e2 => c.st.off _ (List.mem_cons_self) (by rw [← e2]; exact hz a n d e hn)) (fun hb => (c.off _ hb).2.1 (hz a n d e hn)), Nat.lt_of_lt_of_le (c.st.low _ (hz a n d e hn)) c.st.nx⟩⟩
theorem rowWS {o : Nat} {most : Int} {dv : Value} {xs cs : List Value} (c : CWS Z H0 h kc kw x kt cs T L) (hv : cs[o]? = some dv) (hsl : ∃ a n c, dv = .slice a n c) (r : Row H0 dv xs) (hz : ∀ a n c, dv = .slice (some a) n c → n ≠ 0 → Z a.block)
    (hx1 : xs.all Value.oneCell' = true) (hxl : xs.length ≤ 40000) (hl : small9 x) :
    Cl Try.prog 58 [pt kc 0, pt kt o, .int .i64 most] h fun v h' => v = .tuple #[] ∧ CWS Z H0 h' kc kw (wRow most xs x) kt cs T L := by
  obtain ⟨wv, c⟩ := c
  exact rowW_am Z H0 h kc kw wv _ _ L kt cs T o most dv xs c hv hsl (CWS.dat r hz) hx1 hxl hl
def CWE (Z : Nat → Prop) (H0 h : Heap) (kc kw : Nat) (x : WS) (kt : Nat) (T : TypeId) (L : List Blk) : Prop := ∃ cs', CWS Z H0 h kc kw x kt cs' T L
theorem CWE.of {cs : List Value} {y : WS} (c : CWS Z H0 h kc kw x kt cs T L) (e : y = x) : CWE Z H0 h kc kw y kt T L := ⟨cs, by rw [e]; exact c⟩
theorem aI25 : a.cells[25]? = some (.int .i64 a.stable) := rfl
theorem aI26 : a.cells[26]? = some (.int .i64 a.mode) := rfl
theorem aI27 : a.cells[27]? = some (.int .i64 a.type) := rfl
theorem setHV : ∀ i, i < 14 → a.cells[5 + i]? = a.set.cells[i]? := by
  intro i hi
  have : i = 0 ∨ i = 1 ∨ i = 2 ∨ i = 3 ∨ i = 4 ∨ i = 5 ∨ i = 6 ∨ i = 7 ∨ i = 8 ∨ i = 9 ∨ i = 10 ∨ i = 11 ∨ i = 12 ∨ i = 13 := (by omega)
  rcases this with rfl | rfl | rfl | rfl | rfl | rfl | rfl | rfl | rfl | rfl | rfl | rfl | rfl | rfl <;> rfl
set_option maxHeartbeats 4000000 in
theorem namedW_am {n : Nat} (p : Int) (hp : p = 3 ∨ p = 8 ∨ p = 9 ∨ p = 10 ∨ p = 11 ∨ p = 12 ∨ p = 13 ∨ p = 14) (hok : a.OK) (sm : Sm n x) (hn : n ≤ 20) (c : CWS Z H0 h kc kw x kt a.cells T L) :
    Cl Try.prog 59 [pt kc 0, .int .i64 p, pt kt 0] h fun v h' => v = .tuple #[] ∧ CWE Z H0 h' kc kw (wNamed p a x) kt T L := by
  refine Cl.enter Try.func59 rfl _ Try.ntmps59 (by simp) ?_
  intro env hl ha
  have h0 : sl env 0 = pt kc 0 := ha 0 (by simp)
  have h1 : sl env 1 = .int .i64 p := ha 1 (by simp)
  have h2 : sl env 2 = pt kt 0 := ha 2 (by simp)
  clear ha
  have ha_g1 := hok.g1
  have ha_g2 := hok.g2
  have ha_access := hok.access
  have ha_count := hok.count
  have ha_dirCount := hok.dirCount
  have ha_maxCount := hok.maxCount
  have ha_spec1 := hok.spec1
  have ha_spec2 := hok.spec2
  have ha_dSl := hok.dSl
  have ha_dOne := hok.dOne
  have hb_file := Nat.le_trans hok.file (show 30000 ≤ 40000 by decide)
  have hc_file := hok.file
  have hb_to := Nat.le_trans hok.to (show 30000 ≤ 40000 by decide)
  have hc_to := hok.to
  have hb_name := Nat.le_trans hok.name (show 30000 ≤ 40000 by decide)
  have hc_name := hok.name
  have hb_toName := Nat.le_trans hok.toName (show 30000 ≤ 40000 by decide)
  have hc_toName := hok.toName
  have hb_path := Nat.le_trans hok.path (show 30000 ≤ 40000 by decide)
  have hc_path := hok.path
  have hb_data := Nat.le_trans hok.data (show 30000 ≤ 40000 by decide)
  have hc_data := hok.data
  rcases hp with rfl | rfl | rfl | rfl | rfl | rfl | rfl | rfl
  all_goals repeat' (first | (with_reducible refine Wp.st ?_; simp only [wS]) | with_reducible refine Wp.drawS (by decide +kernel) ?_ | (refine Wp.cond_true ?_ ?_; focus ((simp (disch := (first | (simp only [List.length_set, hl]; omega) | omega | rfl)) only [sL, aEval_tmp]); done)) | (refine Wp.cond_false ?_ ?_; focus ((simp (disch := (first | (simp only [List.length_set, hl]; omega) | omega | rfl)) only [sL, aEval_tmp]); done)) | ((with_reducible apply Cl.mono (textWS c ?g0 ?g1 ?g2)); (case g0 => (first | (rw [wSetC_get (by decide)]; rfl) | rfl)); (case g1 => (assumption)); (case g2 => ((refine Sm.s9 ?_; (repeat (with_reducible first | refine sm_text (by assumption) ?_ | refine sm_u32 ?_ | refine sm_u64 ?_ | refine sm_num ?_ | refine sm_set ?_ | refine sm_bool ?_ | refine sm_row (by assumption) ?_)); exact Sm.le sm (by omega)))); intro v ha q; (try rw [q.1]); replace c := q.2; clear q) | ((with_reducible apply Cl.mono (numWS c ?g0 ?g1)); (case g0 => (first | (rw [wSetC_get (by decide)]; rfl) | rfl)); (case g1 => ((refine Sm.s9 ?_; (repeat (with_reducible first | refine sm_text (by assumption) ?_ | refine sm_u32 ?_ | refine sm_u64 ?_ | refine sm_num ?_ | refine sm_set ?_ | refine sm_bool ?_ | refine sm_row (by assumption) ?_)); exact Sm.le sm (by omega)))); intro v ha q; (try rw [q.1]); replace c := q.2; clear q) | ((with_reducible apply Cl.mono (truthWS c ?g0 ?g1)); (case g0 => (first | (rw [wSetC_get (by decide)]; rfl) | rfl)); (case g1 => ((refine Sm.s9 ?_; (repeat (with_reducible first | refine sm_text (by assumption) ?_ | refine sm_u32 ?_ | refine sm_u64 ?_ | refine sm_num ?_ | refine sm_set ?_ | refine sm_bool ?_ | refine sm_row (by assumption) ?_)); exact Sm.le sm (by omega)))); intro v ha q; (try rw [q.1]); replace c := q.2; clear q) | ((with_reducible apply Cl.mono (u32WS1 c ?g0 ?g1 ?g2)); (case g0 => (first | (rw [wSetC_get (by decide)]; rfl) | rfl)); (case g1 => (assumption)); (case g2 => ((refine Sm.s9 ?_; (repeat (with_reducible first | refine sm_text (by assumption) ?_ | refine sm_u32 ?_ | refine sm_u64 ?_ | refine sm_num ?_ | refine sm_set ?_ | refine sm_bool ?_ | refine sm_row (by assumption) ?_)); exact Sm.le sm (by omega)))); intro v ha q; (try rw [q.1]); replace c := q.2; clear q) | ((with_reducible apply Cl.mono (u64WS1 c ?g0 ?g1)); (case g0 => (first | (rw [wSetC_get (by decide)]; rfl) | rfl)); (case g1 => ((refine Sm.s9 ?_; (repeat (with_reducible first | refine sm_text (by assumption) ?_ | refine sm_u32 ?_ | refine sm_u64 ?_ | refine sm_num ?_ | refine sm_set ?_ | refine sm_bool ?_ | refine sm_row (by assumption) ?_)); exact Sm.le sm (by omega)))); intro v ha q; (try rw [q.1]); replace c := q.2; clear q) | ((with_reducible apply Cl.mono (u32WS2 c ?g0 ?g1 ?g2 ?g3 ?g4)); (case g0 => (first | (rw [wSetC_get (by decide)]; rfl) | rfl)); (case g1 => (assumption)); (case g2 => (first | (rw [wSetC_get (by decide)]; rfl) | rfl)); (case g3 => (assumption)); (case g4 => ((refine Sm.s9 ?_; (repeat (with_reducible first | refine sm_text (by assumption) ?_ | refine sm_u32 ?_ | refine sm_u64 ?_ | refine sm_num ?_ | refine sm_set ?_ | refine sm_bool ?_ | refine sm_row (by assumption) ?_)); exact Sm.le sm (by omega)))); intro v ha q; (try rw [q.1]); replace c := q.2; clear q) | ((with_reducible apply Cl.mono (u64WS2 c ?g0 ?g1 ?g2)); (case g0 => (first | (rw [wSetC_get (by decide)]; rfl) | rfl)); (case g1 => (first | (rw [wSetC_get (by decide)]; rfl) | rfl)); (case g2 => ((refine Sm.s9 ?_; (repeat (with_reducible first | refine sm_text (by assumption) ?_ | refine sm_u32 ?_ | refine sm_u64 ?_ | refine sm_num ?_ | refine sm_set ?_ | refine sm_bool ?_ | refine sm_row (by assumption) ?_)); exact Sm.le sm (by omega)))); intro v ha q; (try rw [q.1]); replace c := q.2; clear q) | ((with_reducible apply Cl.mono (timeWS c ?g0 ?g1 ?g2 ?g3 ?g4)); (case g0 => (first | (rw [wSetC_get (by decide)]; rfl) | rfl)); (case g1 => (assumption)); (case g2 => (first | (rw [wSetC_get (by decide)]; rfl) | rfl)); (case g3 => (assumption)); (case g4 => ((refine Sm.s9 ?_; (repeat (with_reducible first | refine sm_text (by assumption) ?_ | refine sm_u32 ?_ | refine sm_u64 ?_ | refine sm_num ?_ | refine sm_set ?_ | refine sm_bool ?_ | refine sm_row (by assumption) ?_)); exact Sm.le sm (by omega)))); intro v ha q; (try rw [q.1]); replace c := q.2; clear q) | ((with_reducible apply Cl.mono (setWS (s := a.set) hok.set c setHV ?g0)); (case g0 => ((refine Sm.s9 ?_; (repeat (with_reducible first | refine sm_text (by assumption) ?_ | refine sm_u32 ?_ | refine sm_u64 ?_ | refine sm_num ?_ | refine sm_set ?_ | refine sm_bool ?_ | refine sm_row (by assumption) ?_)); exact Sm.le sm (by omega)))); intro v ha q; (try rw [q.1]); replace c := q.2; clear q) | simp (disch := (first | (simp only [List.length_set, hl]; omega) | omega | rfl)) only [walkA, walkB, bne_self_eq_false, beq_self_eq_true, Option.map_some, Option.map_none, reduceIte, decide_true, decide_false, Int.reduceLT, Int.reduceLE, Int.reduceMul, Int.reduceAdd, Int.reduceSub, h0, h1, h2, faA0, faA1, faA2, faA3, faA4, faA5, faA6, faA7, faA8, faA9, faA10, faA11, faA12, faA13, faA14, faA15, faA16, faA17, faA18, faA19, faA20, faA21, bp32, bp64, bp32', bp64', c.ldI, aI25, aI26, aI27, wSetC_get , Int.reduceBEq, Int.reduceBNe, Int.reduceGT, Int.reduceGE, Nat.reduceAdd] | ((refine Wp.cond' ⟨_, by (simp (disch := (first | (simp only [List.length_set, hl]; omega) | omega | rfl)) only [sl_eq, sl_ne, aEval_tmp]; rfl), ?_, ?_⟩ <;> intro hb <;> (try simp only [beq_iff_eq, bne_iff_ne, ne_eq, decide_eq_true_eq, decide_eq_false_iff_not, beq_eq_false_iff_ne, bne_eq_false_iff_eq, Bool.not_eq_true', Bool.not_eq_false'] at hb) <;> (try (exfalso; omega)))))
  all_goals simp only [aRes_none Try.results59]
  all_goals (try simp only [true_and])
  all_goals refine CWE.of c ?_
  all_goals unfold wNamed
  all_goals repeat' (first | rfl | (exfalso; omega) | split)
def wArgs (p : Int) (a : AR) (x : WS) : WS :=
  if p = 0 ∨ p = 100 ∨ p = 102 ∨ p = 104 ∨ p = 105 then x
  else if p = 101 ∨ p = 103 then wText 1024 a.path x
  else if p = 2 then (if a.guard = true then wU32 a.g2 (wU32 a.g1 (wBool a.guard (wSet a.set (wText 64 a.file x)))) else wBool a.guard (wSet a.set (wText 64 a.file x)))
  else if p = 4 then wU32 a.access (wText 64 a.file x)
  else if p = 6 ∨ p = 21 then wU32 a.count (wU64 a.offset (wText 64 a.file x))
  else if p = 7 then wRow 8192 a.data (wNum 0 2 a.stable (wU32 a.count (wU64 a.offset (wText 64 a.file x))))
  else if p = 15 then wText 255 a.toName (wText 64 a.to (wText 64 a.file x))
  else if p = 16 then wU32 a.count (wU64 a.cookieVerf (wU64 a.cookie (wText 64 a.file x)))
  else if p = 17 then wU32 a.maxCount (wU32 a.dirCount (wU64 a.cookieVerf (wU64 a.cookie (wText 64 a.file x))))
  else if p = 3 ∨ (8 ≤ p ∧ p ≤ 14) then wNamed p a (wText 255 a.name (wText 64 a.file x))
  else wText 64 a.file x
theorem CWE.of' {y : WS} (c : CWE Z H0 h kc kw x kt T L) (e : y = x) : CWE Z H0 h kc kw y kt T L := by rw [e]; exact c
set_option maxHeartbeats 8000000 in
theorem argsW_am {n : Nat} (p : Int) (hp : there p = true) (hok : a.OK) (sm : Sm n x) (hn : n ≤ 10) (r : Row H0 a.dv a.data) (hz : ∀ b n c, a.dv = .slice (some b) n c → n ≠ 0 → Z b.block) (c : CWS Z H0 h kc kw x kt a.cells T L) :
    Cl Try.prog 22 [pt kc 0, .int .i64 p, pt kt 0] h fun v h' => v = .tuple #[] ∧ CWE Z H0 h' kc kw (wArgs p a x) kt T L := by
  refine Cl.enter Try.func22 rfl _ Try.ntmps22 (by simp) ?_
  intro env hl ha
  have h0 : sl env 0 = pt kc 0 := ha 0 (by simp)
  have h1 : sl env 1 = .int .i64 p := ha 1 (by simp)
  have h2 : sl env 2 = pt kt 0 := ha 2 (by simp)
  clear ha
  have ha_g1 := hok.g1
  have ha_g2 := hok.g2
  have ha_access := hok.access
  have ha_count := hok.count
  have ha_dirCount := hok.dirCount
  have ha_maxCount := hok.maxCount
  have ha_spec1 := hok.spec1
  have ha_spec2 := hok.spec2
  have ha_dSl := hok.dSl
  have ha_dOne := hok.dOne
  have hb_file := Nat.le_trans hok.file (show 30000 ≤ 40000 by decide)
  have hc_file := hok.file
  have hb_to := Nat.le_trans hok.to (show 30000 ≤ 40000 by decide)
  have hc_to := hok.to
  have hb_name := Nat.le_trans hok.name (show 30000 ≤ 40000 by decide)
  have hc_name := hok.name
  have hb_toName := Nat.le_trans hok.toName (show 30000 ≤ 40000 by decide)
  have hc_toName := hok.toName
  have hb_path := Nat.le_trans hok.path (show 30000 ≤ 40000 by decide)
  have hc_path := hok.path
  have hb_data := Nat.le_trans hok.data (show 30000 ≤ 40000 by decide)
  have hc_data := hok.data
  have hp := there_cases hp
  all_goals rcases hp with rfl | rfl | rfl | rfl | rfl | rfl | rfl | rfl | rfl | rfl | rfl | rfl | rfl | rfl | rfl | rfl | rfl | rfl | rfl | rfl | rfl | rfl | rfl | rfl | rfl | rfl | rfl | rfl
  all_goals repeat' (first | (with_reducible refine Wp.st ?_; simp only [wS]) | with_reducible refine Wp.drawS (by decide +kernel) ?_ | (refine Wp.cond_true ?_ ?_; focus ((simp (disch := (first | (simp only [List.length_set, hl]; omega) | omega | rfl)) only [sL, aEval_tmp]); done)) | (refine Wp.cond_false ?_ ?_; focus ((simp (disch := (first | (simp only [List.length_set, hl]; omega) | omega | rfl)) only [sL, aEval_tmp]); done)) | ((with_reducible apply Cl.mono (namedW_am (n := 12) _ ?g0 hok ?g1 (by decide) c)); (case g0 => (decide)); (case g1 => (((repeat (with_reducible first | refine sm_text (by assumption) ?_)); exact Sm.le sm hn))); intro v ha q; (try rw [q.1]); replace c := q.2; clear q) | ((with_reducible apply Cl.mono (rowWS (xs := a.data) c ?g0 ha_dSl r hz ha_dOne hb_data ?g1)); (case g0 => (first | (rw [wSetC_get (by decide)]; rfl) | rfl)); (case g1 => ((refine Sm.s9 ?_; (repeat (with_reducible first | refine sm_text (by assumption) ?_ | refine sm_u32 ?_ | refine sm_u64 ?_ | refine sm_num ?_ | refine sm_set ?_ | refine sm_bool ?_ | refine sm_row (by assumption) ?_)); exact Sm.le sm (by omega)))); intro v ha q; (try rw [q.1]); replace c := q.2; clear q) | ((with_reducible apply Cl.mono (textWS c ?g0 ?g1 ?g2)); (case g0 => (first | (rw [wSetC_get (by decide)]; rfl) | rfl)); (case g1 => (assumption)); (case g2 => ((refine Sm.s9 ?_; (repeat (with_reducible first | refine sm_text (by assumption) ?_ | refine sm_u32 ?_ | refine sm_u64 ?_ | refine sm_num ?_ | refine sm_set ?_ | refine sm_bool ?_ | refine sm_row (by assumption) ?_)); exact Sm.le sm (by omega)))); intro v ha q; (try rw [q.1]); replace c := q.2; clear q) | ((with_reducible apply Cl.mono (numWS c ?g0 ?g1)); (case g0 => (first | (rw [wSetC_get (by decide)]; rfl) | rfl)); (case g1 => ((refine Sm.s9 ?_; (repeat (with_reducible first | refine sm_text (by assumption) ?_ | refine sm_u32 ?_ | refine sm_u64 ?_ | refine sm_num ?_ | refine sm_set ?_ | refine sm_bool ?_ | refine sm_row (by assumption) ?_)); exact Sm.le sm (by omega)))); intro v ha q; (try rw [q.1]); replace c := q.2; clear q) | ((with_reducible apply Cl.mono (truthWS c ?g0 ?g1)); (case g0 => (first | (rw [wSetC_get (by decide)]; rfl) | rfl)); (case g1 => ((refine Sm.s9 ?_; (repeat (with_reducible first | refine sm_text (by assumption) ?_ | refine sm_u32 ?_ | refine sm_u64 ?_ | refine sm_num ?_ | refine sm_set ?_ | refine sm_bool ?_ | refine sm_row (by assumption) ?_)); exact Sm.le sm (by omega)))); intro v ha q; (try rw [q.1]); replace c := q.2; clear q) | ((with_reducible apply Cl.mono (u32WS1 c ?g0 ?g1 ?g2)); (case g0 => (first | (rw [wSetC_get (by decide)]; rfl) | rfl)); (case g1 => (assumption)); (case g2 => ((refine Sm.s9 ?_; (repeat (with_reducible first | refine sm_text (by assumption) ?_ | refine sm_u32 ?_ | refine sm_u64 ?_ | refine sm_num ?_ | refine sm_set ?_ | refine sm_bool ?_ | refine sm_row (by assumption) ?_)); exact Sm.le sm (by omega)))); intro v ha q; (try rw [q.1]); replace c := q.2; clear q) | ((with_reducible apply Cl.mono (u64WS1 c ?g0 ?g1)); (case g0 => (first | (rw [wSetC_get (by decide)]; rfl) | rfl)); (case g1 => ((refine Sm.s9 ?_; (repeat (with_reducible first | refine sm_text (by assumption) ?_ | refine sm_u32 ?_ | refine sm_u64 ?_ | refine sm_num ?_ | refine sm_set ?_ | refine sm_bool ?_ | refine sm_row (by assumption) ?_)); exact Sm.le sm (by omega)))); intro v ha q; (try rw [q.1]); replace c := q.2; clear q) | ((with_reducible apply Cl.mono (u32WS2 c ?g0 ?g1 ?g2 ?g3 ?g4)); (case g0 => (first | (rw [wSetC_get (by decide)]; rfl) | rfl)); (case g1 => (assumption)); (case g2 => (first | (rw [wSetC_get (by decide)]; rfl) | rfl)); (case g3 => (assumption)); (case g4 => ((refine Sm.s9 ?_; (repeat (with_reducible first | refine sm_text (by assumption) ?_ | refine sm_u32 ?_ | refine sm_u64 ?_ | refine sm_num ?_ | refine sm_set ?_ | refine sm_bool ?_ | refine sm_row (by assumption) ?_)); exact Sm.le sm (by omega)))); intro v ha q; (try rw [q.1]); replace c := q.2; clear q) | ((with_reducible apply Cl.mono (u64WS2 c ?g0 ?g1 ?g2)); (case g0 => (first | (rw [wSetC_get (by decide)]; rfl) | rfl)); (case g1 => (first | (rw [wSetC_get (by decide)]; rfl) | rfl)); (case g2 => ((refine Sm.s9 ?_; (repeat (with_reducible first | refine sm_text (by assumption) ?_ | refine sm_u32 ?_ | refine sm_u64 ?_ | refine sm_num ?_ | refine sm_set ?_ | refine sm_bool ?_ | refine sm_row (by assumption) ?_)); exact Sm.le sm (by omega)))); intro v ha q; (try rw [q.1]); replace c := q.2; clear q) | ((with_reducible apply Cl.mono (timeWS c ?g0 ?g1 ?g2 ?g3 ?g4)); (case g0 => (first | (rw [wSetC_get (by decide)]; rfl) | rfl)); (case g1 => (assumption)); (case g2 => (first | (rw [wSetC_get (by decide)]; rfl) | rfl)); (case g3 => (assumption)); (case g4 => ((refine Sm.s9 ?_; (repeat (with_reducible first | refine sm_text (by assumption) ?_ | refine sm_u32 ?_ | refine sm_u64 ?_ | refine sm_num ?_ | refine sm_set ?_ | refine sm_bool ?_ | refine sm_row (by assumption) ?_)); exact Sm.le sm (by omega)))); intro v ha q; (try rw [q.1]); replace c := q.2; clear q) | ((with_reducible apply Cl.mono (setWS (s := a.set) hok.set c setHV ?g0)); (case g0 => ((refine Sm.s9 ?_; (repeat (with_reducible first | refine sm_text (by assumption) ?_ | refine sm_u32 ?_ | refine sm_u64 ?_ | refine sm_num ?_ | refine sm_set ?_ | refine sm_bool ?_ | refine sm_row (by assumption) ?_)); exact Sm.le sm (by omega)))); intro v ha q; (try rw [q.1]); replace c := q.2; clear q) | simp (disch := (first | (simp only [List.length_set, hl]; omega) | omega | rfl)) only [walkA, walkB, bne_self_eq_false, beq_self_eq_true, Option.map_some, Option.map_none, reduceIte, decide_true, decide_false, Int.reduceLT, Int.reduceLE, Int.reduceMul, Int.reduceAdd, Int.reduceSub, h0, h1, h2, faA0, faA1, faA2, faA3, faA4, faA5, faA6, faA7, faA8, faA9, faA10, faA11, faA12, faA13, faA14, faA15, faA16, faA17, faA18, faA19, faA20, faA21, bp32, bp64, bp32', bp64', c.ldI, aI25, aI26, aI27, wSetC_get , Int.reduceBEq, Int.reduceBNe, Int.reduceGT, Int.reduceGE, Nat.reduceAdd] | ((refine Wp.cond' ⟨_, by (simp (disch := (first | (simp only [List.length_set, hl]; omega) | omega | rfl)) only [sl_eq, sl_ne, aEval_tmp]; rfl), ?_, ?_⟩ <;> intro hb <;> (try simp only [beq_iff_eq, bne_iff_ne, ne_eq, decide_eq_true_eq, decide_eq_false_iff_not, beq_eq_false_iff_ne, bne_eq_false_iff_eq, Bool.not_eq_true', Bool.not_eq_false'] at hb) <;> (try (exfalso; omega)))))
  all_goals simp only [aRes_none Try.results22]
  all_goals (try simp only [true_and])
  all_goals first | refine CWE.of c ?_ | refine CWE.of' c ?_
  all_goals unfold wArgs
  all_goals repeat' (first | rfl | (exfalso; first | omega | contradiction | (simp_all; done)) | split)
end
end Go.Proofs.Ytanknjpcgceccaa

namespace Go.Proofs.Ytanknjpcgceccaa
open Go Go.AM
set_option linter.unusedSimpArgs false
set_option maxRecDepth 100000
attribute [local irreducible] WOps WV WH WSt WNil WPick WGd
def wrArgs (p : Int) (a : AR) : List Value × Int :=
  if there p = true then (if (wArgs p a ⟨[], false⟩).bad = true then ([], 33) else ((wArgs p a ⟨[], false⟩).bs, 0)) else ([], 36)
def OutV (h h' : Heap) (bv : Value) (bs : List Value) : Prop := Buf h' 5 bv bs ∧ Same h h' noS ∧ (∀ j, bufBlk bv j → h.next ≤ j) ∧ bs.all Value.oneCell' = true
theorem AR.one (a : AR) (hok : a.OK) : a.cells.all Value.oneCell' = true := by
  obtain ⟨b, n, c, e⟩ := hok.dSl
  simp [AR.cells, SA.cells, Value.oneCell', e]
theorem bCoderW {a : Addr} : aBuild Try.prog 69 [(1, .pointer (some a))] = some (.agg #[.pointer none, .pointer (some a), .bool false]) := by kernel_rfl
theorem xCoderW {h : Heap} {a : Addr} : aBox h 69 (.agg #[.pointer none, .pointer (some a), .bool false]) = some (pt h.next 0, h.push (.cells [.pointer none, .pointer (some a), .bool false] TC false)) := by kernel_rfl
theorem nilBuf (j : Nat) : ¬ bufBlk (.slice none 0 0) j := by rintro ⟨o, m, d, hh⟩; cases hh
section
variable {Z : Nat → Prop} {H0 h : Heap} {L : List Blk}
theorem CWS.new {kt : Nat} {cs : List Value} {T : TypeId} (s : St Z H0 h ((kt, cs, T) :: L)) :
    CWS Z H0 ((h.push (.cells [.slice none 0 0] TWp false)).push (.cells [.pointer none, pt h.next 0, .bool false] TC false)) (h.push (.cells [.slice none 0 0] TWp false)).next h.next ⟨[], false⟩ kt cs T L :=
  ⟨.slice none 0 0, WB.alloc (⟨s.push _ _, .inl ⟨rfl, rfl⟩, fun j hj => (nilBuf j hj).elim, rfl⟩ : WB Z H0 _ h.next TWp (.slice none 0 0) [] ((kt, cs, T) :: L)) _ _⟩
end
theorem wNamed_sm {n : Nat} {p : Int} {a : AR} {x : WS} (hok : a.OK) (h : Sm n x) : Sm (n + 4) (wNamed p a x) := by
  have h1 := hok.path; have h2 := hok.to; have h3 := hok.toName
  unfold wNamed
  repeat' split
  all_goals (repeat (with_reducible first | exact h | refine sm_text (by assumption) ?_ | refine sm_row (by assumption) ?_ | refine sm_u32 ?_ | refine sm_u64 ?_ | refine sm_num ?_ | refine sm_bool ?_ | refine sm_set ?_))
  all_goals exact h.le (by omega)
theorem wArgs_sm {n : Nat} {p : Int} {a : AR} {x : WS} (hok : a.OK) (h : Sm n x) : Sm (n + 8) (wArgs p a x) := by
  have h1 := hok.path; have h2 := hok.to; have h3 := hok.toName; have h4 := hok.file; have h5 := hok.name; have h6 := hok.data
  unfold wArgs
  repeat' split
  all_goals (repeat (with_reducible first | exact h | refine wNamed_sm hok ?_ | refine sm_text (by assumption) ?_ | refine sm_row (by assumption) ?_ | refine sm_u32 ?_ | refine sm_u64 ?_ | refine sm_num ?_ | refine sm_bool ?_ | refine sm_set ?_))
  all_goals exact h.le (by omega)
theorem wArgs_len {n : Nat} {p : Int} {a : AR} {x : WS} (hok : a.OK) (h : Sm n x) : (wArgs p a x).bs.length ≤ (n + 8) * 31000 := wArgs_sm hok h
set_option maxHeartbeats 1000000 in
theorem writeArgs_am (p : Int) (a : AR) (hok : a.OK) (h : Heap) (r : Row h a.dv a.data) :
    Cl Try.prog 12 [.int .i64 p, .agg a.cells.toArray] h fun v h' => ∃ bv, v = .tuple #[bv, .int .i64 (wrArgs p a).2] ∧ OutV h h' bv (wrArgs p a).1 := by
  refine Cl.enter Try.func12 rfl _ Try.ntmps12 (by simp) ?_
  intro env hl ha
  have h0 : sl env 0 = .int .i64 p := ha 0 (by simp)
  have h1 : sl env 1 = .agg a.cells.toArray := ha 1 (by simp)
  clear ha
  have s0 := (St.nil (fun j => j < h.next) h (fun _ x => x)).push a.cells TA
  have xb : aBox h 30 (.agg a.cells.toArray) = some (pt h.next 0, h.push (.cells a.cells TA false)) := by
    have := a.one hok
    simp [aBox, aNew, Value.cells, this]
  have keep : ∀ {h5 : Heap} {L : List Blk}, St (fun j => j < h.next) h h5 L → Same h h5 noS := fun q => ⟨q.nx, fun j e he _ => q.stay j e he (Heap.get_lt he)⟩
  repeat (first | (with_reducible refine Wp.st ?_; simp only [wS]) | with_reducible refine Wp.drawS (by decide +kernel) ?_ | simp (disch := (first | (simp only [List.length_set, hl]; omega) | omega | rfl)) only [walkA, walkB, bne_self_eq_false, beq_self_eq_true, Option.map_some, Option.map_none, reduceIte, decide_true, decide_false, Int.reduceLT, Int.reduceLE, Int.reduceMul, Int.reduceAdd, Int.reduceSub, h0, h1, xb])
  refine Cl.pure (is_am p _) ?_
  cases hp : there p with
  | false =>
    have e : wrArgs p a = ([], 36) := by unfold wrArgs; rw [if_neg (by simp [hp])]
    repeat (first | (with_reducible refine Wp.st ?_; simp only [wS]) | with_reducible refine Wp.drawS (by decide +kernel) ?_ | simp (disch := (first | (simp only [List.length_set, hl]; omega) | omega | rfl)) only [walkA, walkB, bne_self_eq_false, beq_self_eq_true, Option.map_some, Option.map_none, reduceIte, decide_true, decide_false, Int.reduceLT, Int.reduceLE, Int.reduceMul, Int.reduceAdd, Int.reduceSub, h0, h1])
    refine Wp.cond_true (by first | ((simp (disch := (first | (simp only [List.length_set, hl]; omega) | omega | rfl)) only [sL, aEval_tmp]); done) | ((simp (disch := (first | (simp only [List.length_set, hl]; omega) | omega | rfl)) only [sL, aEval_tmp]); rfl)) ?_
    repeat (first | (with_reducible refine Wp.st ?_; simp only [wS]) | with_reducible refine Wp.drawS (by decide +kernel) ?_ | simp (disch := (first | (simp only [List.length_set, hl]; omega) | omega | rfl)) only [walkA, walkB, bne_self_eq_false, beq_self_eq_true, Option.map_some, Option.map_none, reduceIte, decide_true, decide_false, Int.reduceLT, Int.reduceLE, Int.reduceMul, Int.reduceAdd, Int.reduceSub, h0, h1])
    simp (disch := (first | (simp only [List.length_set, hl]; omega) | omega | rfl)) only [aRes_two Try.results12, sL]
    rw [e]
    exact ⟨_, rfl, .inl ⟨rfl, rfl⟩, keep s0, fun j hj => (nilBuf j hj).elim, rfl⟩
  | true =>
    have e : wrArgs p a = if (wArgs p a ⟨[], false⟩).bad = true then ([], 33) else ((wArgs p a ⟨[], false⟩).bs, 0) := by unfold wrArgs; rw [if_pos hp]
    have c := CWS.new s0
    generalize h.push (.cells a.cells TA false) = h2 at c
    repeat (first | (with_reducible refine Wp.st ?_; simp only [wS]) | with_reducible refine Wp.drawS (by decide +kernel) ?_ | simp (disch := (first | (simp only [List.length_set, hl]; omega) | omega | rfl)) only [walkA, walkB, bne_self_eq_false, beq_self_eq_true, Option.map_some, Option.map_none, reduceIte, decide_true, decide_false, Int.reduceLT, Int.reduceLE, Int.reduceMul, Int.reduceAdd, Int.reduceSub, h0, h1])
    refine Wp.cond_false (by first | ((simp (disch := (first | (simp only [List.length_set, hl]; omega) | omega | rfl)) only [sL, aEval_tmp]); done) | ((simp (disch := (first | (simp only [List.length_set, hl]; omega) | omega | rfl)) only [sL, aEval_tmp]); rfl)) ?_
    repeat (first | (with_reducible refine Wp.st ?_; simp only [wS]) | with_reducible refine Wp.drawS (by decide +kernel) ?_ | simp (disch := (first | (simp only [List.length_set, hl]; omega) | omega | rfl)) only [walkA, walkB, bne_self_eq_false, beq_self_eq_true, Option.map_some, Option.map_none, reduceIte, decide_true, decide_false, Int.reduceLT, Int.reduceLE, Int.reduceMul, Int.reduceAdd, Int.reduceSub, h0, h1])
    refine (newWriter_am _).mono ?_
    intro v h3 q
    rw [q.1, q.2]
    clear q
    have xc := xCoderW (h := h2.push (.cells [.slice none 0 0] TWp false)) (a := ⟨h2.next, 0, none⟩)
    repeat (first | (with_reducible refine Wp.st ?_; simp only [wS]) | with_reducible refine Wp.drawS (by decide +kernel) ?_ | simp (disch := (first | (simp only [List.length_set, hl]; omega) | omega | rfl)) only [walkA, walkB, bne_self_eq_false, beq_self_eq_true, Option.map_some, Option.map_none, reduceIte, decide_true, decide_false, Int.reduceLT, Int.reduceLE, Int.reduceMul, Int.reduceAdd, Int.reduceSub, h0, h1, bCoderW, xc])
    refine (argsW_am (n := 0) p hp hok (by unfold Sm; simp) (by decide) r (fun b n d e hn => row_lt r b n d e hn) c).mono ?_
    intro v h4 q
    rw [q.1]
    obtain ⟨cs', wv, c4⟩ := q.2
    clear q
    have lb := c4.lb
    have lw := c4.lw
    have k4 := keep c4.st
    rw [e]
    cases hb : (wArgs p a ⟨[], false⟩).bad with
    | true =>
      rw [hb] at lb
      repeat (first | (with_reducible refine Wp.st ?_; simp only [wS]) | with_reducible refine Wp.drawS (by decide +kernel) ?_ | simp (disch := (first | (simp only [List.length_set, hl]; omega) | omega | rfl)) only [walkA, walkB, bne_self_eq_false, beq_self_eq_true, Option.map_some, Option.map_none, reduceIte, decide_true, decide_false, Int.reduceLT, Int.reduceLE, Int.reduceMul, Int.reduceAdd, Int.reduceSub, h0, h1, faC2, lb])
      refine Wp.cond_true (by first | ((simp (disch := (first | (simp only [List.length_set, hl]; omega) | omega | rfl)) only [sL, aEval_tmp]); done) | ((simp (disch := (first | (simp only [List.length_set, hl]; omega) | omega | rfl)) only [sL, aEval_tmp]); rfl)) ?_
      repeat (first | (with_reducible refine Wp.st ?_; simp only [wS]) | with_reducible refine Wp.drawS (by decide +kernel) ?_ | simp (disch := (first | (simp only [List.length_set, hl]; omega) | omega | rfl)) only [walkA, walkB, bne_self_eq_false, beq_self_eq_true, Option.map_some, Option.map_none, reduceIte, decide_true, decide_false, Int.reduceLT, Int.reduceLE, Int.reduceMul, Int.reduceAdd, Int.reduceSub, h0, h1])
      simp (disch := (first | (simp only [List.length_set, hl]; omega) | omega | rfl)) only [aRes_two Try.results12, sL]
      exact ⟨_, rfl, .inl ⟨rfl, rfl⟩, k4, fun j hj => (nilBuf j hj).elim, rfl⟩
    | false =>
      rw [hb] at lb
      repeat (first | (with_reducible refine Wp.st ?_; simp only [wS]) | with_reducible refine Wp.drawS (by decide +kernel) ?_ | simp (disch := (first | (simp only [List.length_set, hl]; omega) | omega | rfl)) only [walkA, walkB, bne_self_eq_false, beq_self_eq_true, Option.map_some, Option.map_none, reduceIte, decide_true, decide_false, Int.reduceLT, Int.reduceLE, Int.reduceMul, Int.reduceAdd, Int.reduceSub, h0, h1, faC2, lb])
      refine Wp.cond_false (by first | ((simp (disch := (first | (simp only [List.length_set, hl]; omega) | omega | rfl)) only [sL, aEval_tmp]); done) | ((simp (disch := (first | (simp only [List.length_set, hl]; omega) | omega | rfl)) only [sL, aEval_tmp]); rfl)) ?_
      repeat (first | (with_reducible refine Wp.st ?_; simp only [wS]) | with_reducible refine Wp.drawS (by decide +kernel) ?_ | simp (disch := (first | (simp only [List.length_set, hl]; omega) | omega | rfl)) only [walkA, walkB, bne_self_eq_false, beq_self_eq_true, Option.map_some, Option.map_none, reduceIte, decide_true, decide_false, Int.reduceLT, Int.reduceLE, Int.reduceMul, Int.reduceAdd, Int.reduceSub, h0, h1, faC1, lw])
      refine (done_am _ _ _ _ c4.wr c4.one (by have := wArgs_len (p := p) (a := a) (x := ⟨[], false⟩) hok (n := 0) (by unfold Sm; simp); omega)).mono ?_
      intro v h5 q
      repeat (first | (with_reducible refine Wp.st ?_; simp only [wS]) | with_reducible refine Wp.drawS (by decide +kernel) ?_ | simp (disch := (first | (simp only [List.length_set, hl]; omega) | omega | rfl)) only [walkA, walkB, bne_self_eq_false, beq_self_eq_true, Option.map_some, Option.map_none, reduceIte, decide_true, decide_false, Int.reduceLT, Int.reduceLE, Int.reduceMul, Int.reduceAdd, Int.reduceSub, h0, h1])
      simp (disch := (first | (simp only [List.length_set, hl]; omega) | omega | rfl)) only [aRes_two Try.results12, sL]
      exact ⟨_, rfl, q.1, k4.trans q.2.1 (fun _ x => x) (fun _ _ x => x), fun j hj => Nat.le_trans k4.1 (q.2.2 j hj), c4.one⟩
end Go.Proofs.Ytanknjpcgceccaa

namespace Go.Proofs.Ytanknjpcgceccaa
open Go Go.AM Go.RowKit Go.ChangeShapes
set_option linter.unusedSimpArgs false
set_option maxRecDepth 100000
theorem own_knob : ownKnob Try.prog.godebug = none := by kernel_rfl
theorem laid_out : laidOutB Try.prog = true := by kernel_rfl
theorem good : AM.Good Try.prog := AM.Good.of (by kernel_rfl)
theorem wf_u32 {x : Int} (h : (Lit.int .u32 x).wf = true) : u32r x := by
  simp [Lit.wf, IntKind.min, IntKind.max, IntKind.bits, IntKind.signed] at h
  unfold u32r; omega
theorem wf_u8 {x : Int} (h : (Lit.int .u8 x).wf = true) : 0 ≤ x ∧ x < 256 := by
  simp [Lit.wf, IntKind.min, IntKind.max, IntKind.bits, IntKind.signed] at h
  omega
theorem strOf (xs : List Int) (h : ∀ x ∈ xs, 0 ≤ x ∧ x < 256) : ∃ s : ByteArray, xs.map (Value.int .u8) = strB s := by
  refine ⟨⟨(xs.map fun x => UInt8.ofNat x.toNat).toArray⟩, ?_⟩
  unfold strB
  simp only [List.map_map]
  refine List.map_congr_left fun x hx => ?_
  have := h x hx
  simp only [Function.comp]
  congr 1
  have e : (UInt8.ofNat x.toNat).toNat = x.toNat := by
    rw [UInt8.toNat_ofNat']; omega
  rw [e]; omega
structure AR.WF (a : AR) : Prop where
  set : a.set.OK
  g1 : u32r a.g1
  g2 : u32r a.g2
  access : u32r a.access
  count : u32r a.count
  dirCount : u32r a.dirCount
  maxCount : u32r a.maxCount
  spec1 : u32r a.spec1
  spec2 : u32r a.spec2
  dSl : ∃ b n c, a.dv = .slice b n c
  dStr : ∃ s, a.data = strB s
structure AR.Modest (a : AR) : Prop where
  file : a.file.size ≤ 1048576
  to : a.to.size ≤ 1048576
  name : a.name.size ≤ 1048576
  toName : a.toName.size ≤ 1048576
  path : a.path.size ≤ 1048576
  data : a.data.length ≤ 1048576
theorem len_succ {α : Type} {l : List α} {n : Nat} (h : l.length = n + 1) : ∃ a t, l = a :: t ∧ t.length = n := by
  match l, h with
  | a :: t, h => exact ⟨a, t, rfl, by simpa using h⟩
section
variable {H : Type} {h : Heap}
theorem ard_str {P : Program} {n : Nat} {t : TypeId} {cs : List Value} {d : DataW H} (hu : P.underlying t = some .string) (r : ARd P h (n + 1) t cs d) : ∃ s, cs = [.string s] ∧ s.size ≤ Rows.uptoBulk d := by
  unfold ARd at r
  rw [hu] at r
  obtain ⟨s, a, _, e⟩ := r
  refine ⟨s, a, ?_⟩
  rw [e]
  show s.data.size ≤ s.data.toList.length + 1
  simp
theorem bulk_pos (d : DataW H) : 1 ≤ Rows.uptoBulk d := by
  cases d with
  | lit l => cases l <;> simp [Rows.uptoBulk]
  | _ => simp [Rows.uptoBulk]
theorem bulk_len : ∀ l : List (DataW H), l.length ≤ Rows.uptoBulkAll l
  | [] => by simp
  | d :: l => by
    have := bulk_pos d
    have := bulk_len l
    simp only [List.length_cons, Rows.uptoBulkAll]; omega
theorem row_len {v : Value} {vs : List Value} (r : Row h v vs) : ∃ a c, v = .slice a vs.length c := by
  rcases r with ⟨rfl, rfl⟩ | ⟨rfl, k, off, c, rfl⟩ | ⟨k, off, cap, cs, hl, ro, rfl, _⟩
  · exact ⟨_, _, rfl⟩
  · exact ⟨_, _, rfl⟩
  · exact ⟨_, _, rfl⟩
theorem ard_bulk {P : Program} {n m c : Nat} {t e : TypeId} {a : Option Addr} {d : DataW H} (hu : P.underlying t = some (.slice e)) (r : ARd P h (n + 1) t [.slice a m c] d) : m ≤ Rows.uptoBulk d := by
  unfold ARd at r
  rw [hu] at r
  rcases r with ⟨e1, _⟩ | ⟨sp, e1, _⟩ | ⟨k, cap, cells, hl, es, sp, e1, _, _, _, e2, _⟩
  · injection e1 with e1; injection e1 with _ e1; omega
  · injection e1 with e1; unfold slE at e1; injection e1 with _ e1; omega
  · injection e1 with e1; injection e1 with _ e1
    have := bulk_len es
    rw [e2]
    simp only [Rows.uptoBulk]; omega
theorem ard_row {n : Nat} {cs : List Value} {d : DataW H} (r : ARd Try.prog h (n + 2) 22 cs d) : ∃ (v : Value) (s : ByteArray), cs = [v] ∧ Row h v (strB s) ∧ inH h v ∧ (∃ a n c, v = .slice a n c) ∧ (strB s).length ≤ Rows.uptoBulk d := by
  have k5 : Try.prog.cellsOf 5 = 1 := by kernel_rfl
  obtain ⟨v, xs, e, h1, h2, h3, h4⟩ := ard_ints Try.underlying22 Try.underlying5 k5 r
  obtain ⟨s, hs⟩ := strOf xs (fun x hx => wf_u8 (h4 x hx))
  rw [hs] at h1
  refine ⟨v, s, e, h1, h2, h3, ?_⟩
  obtain ⟨a, c, hv⟩ := row_len h1
  rw [e, hv] at r
  exact ard_bulk Try.underlying22 r
set_option maxHeartbeats 2000000 in
theorem ard_time {n : Nat} {cs : List Value} {d : DataW H} (r : ARd Try.prog h (n + 2) 26 cs d) : ∃ a b, cs = [.int .u32 a, .int .u32 b] ∧ u32r a ∧ u32r b := by
  unfold ARd at r
  rw [Try.underlying26] at r
  obtain ⟨ds, hag, hl, hd, hf⟩ := r
  have cz : Try.prog.cellsOf 26 = 2 := by kernel_rfl
  rw [cz] at hl
  have hdn : ds.length = 2 := hd
  obtain ⟨c0, tc0, rfl, hl_0⟩ := len_succ hl
  obtain ⟨c1, tc1, rfl, hl_1⟩ := len_succ hl_0
  obtain rfl := List.eq_nil_of_length_eq_zero hl_1
  obtain ⟨d0, td0, rfl, hdn_0⟩ := len_succ hdn
  obtain ⟨d1, td1, rfl, hdn_1⟩ := len_succ hdn_0
  obtain rfl := List.eq_nil_of_length_eq_zero hdn_1
  · skip
    · skip
      have z_u32 : Try.prog.cellsOf 23 = 1 := by kernel_rfl
      have f0 : ARd Try.prog h (n + 1) 23 (([c0, c1].drop 0).take (Try.prog.cellsOf 23)) d0 := hf 0 _ d0 rfl rfl
      rw [z_u32] at f0
      have f1 : ARd Try.prog h (n + 1) 23 (([c0, c1].drop 1).take (Try.prog.cellsOf 23)) d1 := hf 1 _ d1 rfl rfl
      rw [z_u32] at f1
      obtain ⟨x0, e0, w0⟩ := ard_int Try.underlying23 f0
      injection e0 with e0
      subst e0
      replace w0 := wf_u32 w0
      obtain ⟨x1, e1, w1⟩ := ard_int Try.underlying23 f1
      injection e1 with e1
      subst e1
      replace w1 := wf_u32 w1
      exact ⟨x0, x1, rfl, w0, w1⟩
set_option maxHeartbeats 2000000 in
theorem ard_sattr {n : Nat} {cs : List Value} {d : DataW H} (r : ARd Try.prog h (n + 3) 28 cs d) : ∃ s : SA, cs = s.cells ∧ s.OK := by
  unfold ARd at r
  rw [Try.underlying28] at r
  obtain ⟨ds, hag, hl, hd, hf⟩ := r
  have cz : Try.prog.cellsOf 28 = 14 := by kernel_rfl
  rw [cz] at hl
  have hdn : ds.length = 12 := hd
  obtain ⟨c0, tc0, rfl, hl_0⟩ := len_succ hl
  obtain ⟨c1, tc1, rfl, hl_1⟩ := len_succ hl_0
  obtain ⟨c2, tc2, rfl, hl_2⟩ := len_succ hl_1
  obtain ⟨c3, tc3, rfl, hl_3⟩ := len_succ hl_2
  obtain ⟨c4, tc4, rfl, hl_4⟩ := len_succ hl_3
  obtain ⟨c5, tc5, rfl, hl_5⟩ := len_succ hl_4
  obtain ⟨c6, tc6, rfl, hl_6⟩ := len_succ hl_5
  obtain ⟨c7, tc7, rfl, hl_7⟩ := len_succ hl_6
  obtain ⟨c8, tc8, rfl, hl_8⟩ := len_succ hl_7
  obtain ⟨c9, tc9, rfl, hl_9⟩ := len_succ hl_8
  obtain ⟨c10, tc10, rfl, hl_10⟩ := len_succ hl_9
  obtain ⟨c11, tc11, rfl, hl_11⟩ := len_succ hl_10
  obtain ⟨c12, tc12, rfl, hl_12⟩ := len_succ hl_11
  obtain ⟨c13, tc13, rfl, hl_13⟩ := len_succ hl_12
  obtain rfl := List.eq_nil_of_length_eq_zero hl_13
  obtain ⟨d0, td0, rfl, hdn_0⟩ := len_succ hdn
  obtain ⟨d1, td1, rfl, hdn_1⟩ := len_succ hdn_0
  obtain ⟨d2, td2, rfl, hdn_2⟩ := len_succ hdn_1
  obtain ⟨d3, td3, rfl, hdn_3⟩ := len_succ hdn_2
  obtain ⟨d4, td4, rfl, hdn_4⟩ := len_succ hdn_3
  obtain ⟨d5, td5, rfl, hdn_5⟩ := len_succ hdn_4
  obtain ⟨d6, td6, rfl, hdn_6⟩ := len_succ hdn_5
  obtain ⟨d7, td7, rfl, hdn_7⟩ := len_succ hdn_6
  obtain ⟨d8, td8, rfl, hdn_8⟩ := len_succ hdn_7
  obtain ⟨d9, td9, rfl, hdn_9⟩ := len_succ hdn_8
  obtain ⟨d10, td10, rfl, hdn_10⟩ := len_succ hdn_9
  obtain ⟨d11, td11, rfl, hdn_11⟩ := len_succ hdn_10
  obtain rfl := List.eq_nil_of_length_eq_zero hdn_11
  · skip
    · skip
      have z_bool : Try.prog.cellsOf 4 = 1 := by kernel_rfl
      have z_int : Try.prog.cellsOf 3 = 1 := by kernel_rfl
      have z_time : Try.prog.cellsOf 26 = 2 := by kernel_rfl
      have z_u32 : Try.prog.cellsOf 23 = 1 := by kernel_rfl
      have z_u64 : Try.prog.cellsOf 24 = 1 := by kernel_rfl
      have f0 : ARd Try.prog h (n + 2) 4 (([c0, c1, c2, c3, c4, c5, c6, c7, c8, c9, c10, c11, c12, c13].drop 0).take (Try.prog.cellsOf 4)) d0 := hf 0 _ d0 rfl rfl
      rw [z_bool] at f0
      have f1 : ARd Try.prog h (n + 2) 4 (([c0, c1, c2, c3, c4, c5, c6, c7, c8, c9, c10, c11, c12, c13].drop 1).take (Try.prog.cellsOf 4)) d1 := hf 1 _ d1 rfl rfl
      rw [z_bool] at f1
      have f2 : ARd Try.prog h (n + 2) 4 (([c0, c1, c2, c3, c4, c5, c6, c7, c8, c9, c10, c11, c12, c13].drop 2).take (Try.prog.cellsOf 4)) d2 := hf 2 _ d2 rfl rfl
      rw [z_bool] at f2
      have f3 : ARd Try.prog h (n + 2) 4 (([c0, c1, c2, c3, c4, c5, c6, c7, c8, c9, c10, c11, c12, c13].drop 3).take (Try.prog.cellsOf 4)) d3 := hf 3 _ d3 rfl rfl
      rw [z_bool] at f3
      have f4 : ARd Try.prog h (n + 2) 3 (([c0, c1, c2, c3, c4, c5, c6, c7, c8, c9, c10, c11, c12, c13].drop 4).take (Try.prog.cellsOf 3)) d4 := hf 4 _ d4 rfl rfl
      rw [z_int] at f4
      have f5 : ARd Try.prog h (n + 2) 23 (([c0, c1, c2, c3, c4, c5, c6, c7, c8, c9, c10, c11, c12, c13].drop 5).take (Try.prog.cellsOf 23)) d5 := hf 5 _ d5 rfl rfl
      rw [z_u32] at f5
      have f6 : ARd Try.prog h (n + 2) 23 (([c0, c1, c2, c3, c4, c5, c6, c7, c8, c9, c10, c11, c12, c13].drop 6).take (Try.prog.cellsOf 23)) d6 := hf 6 _ d6 rfl rfl
      rw [z_u32] at f6
      have f7 : ARd Try.prog h (n + 2) 24 (([c0, c1, c2, c3, c4, c5, c6, c7, c8, c9, c10, c11, c12, c13].drop 7).take (Try.prog.cellsOf 24)) d7 := hf 7 _ d7 rfl rfl
      rw [z_u64] at f7
      have f8 : ARd Try.prog h (n + 2) 3 (([c0, c1, c2, c3, c4, c5, c6, c7, c8, c9, c10, c11, c12, c13].drop 8).take (Try.prog.cellsOf 3)) d8 := hf 8 _ d8 rfl rfl
      rw [z_int] at f8
      have f9 : ARd Try.prog h (n + 2) 3 (([c0, c1, c2, c3, c4, c5, c6, c7, c8, c9, c10, c11, c12, c13].drop 9).take (Try.prog.cellsOf 3)) d9 := hf 9 _ d9 rfl rfl
      rw [z_int] at f9
      have f10 : ARd Try.prog h (n + 2) 26 (([c0, c1, c2, c3, c4, c5, c6, c7, c8, c9, c10, c11, c12, c13].drop 10).take (Try.prog.cellsOf 26)) d10 := hf 10 _ d10 rfl rfl
      rw [z_time] at f10
      have f11 : ARd Try.prog h (n + 2) 26 (([c0, c1, c2, c3, c4, c5, c6, c7, c8, c9, c10, c11, c12, c13].drop 12).take (Try.prog.cellsOf 26)) d11 := hf 11 _ d11 rfl rfl
      rw [z_time] at f11
      obtain ⟨x0, e0⟩ := ard_bool Try.underlying4 f0
      injection e0 with e0
      subst e0
      obtain ⟨x1, e1⟩ := ard_bool Try.underlying4 f1
      injection e1 with e1
      subst e1
      obtain ⟨x2, e2⟩ := ard_bool Try.underlying4 f2
      injection e2 with e2
      subst e2
      obtain ⟨x3, e3⟩ := ard_bool Try.underlying4 f3
      injection e3 with e3
      subst e3
      obtain ⟨x4, e4, w4⟩ := ard_int Try.underlying3 f4
      injection e4 with e4
      subst e4
      obtain ⟨x5, e5, w5⟩ := ard_int Try.underlying23 f5
      injection e5 with e5
      subst e5
      replace w5 := wf_u32 w5
      obtain ⟨x6, e6, w6⟩ := ard_int Try.underlying23 f6
      injection e6 with e6
      subst e6
      replace w6 := wf_u32 w6
      obtain ⟨x7, e7, w7⟩ := ard_int Try.underlying24 f7
      injection e7 with e7
      subst e7
      obtain ⟨x8, e8, w8⟩ := ard_int Try.underlying3 f8
      injection e8 with e8
      subst e8
      obtain ⟨x9, e9, w9⟩ := ard_int Try.underlying3 f9
      injection e9 with e9
      subst e9
      obtain ⟨x10, y10, e10, w10, u10⟩ := ard_time f10
      have e10' : [c10, c11] = _ := e10
      injection e10' with p10 q10
      injection q10 with q10
      subst p10
      subst q10
      obtain ⟨x11, y11, e11, w11, u11⟩ := ard_time f11
      have e11' : [c12, c13] = _ := e11
      injection e11' with p11 q11
      injection q11 with q11
      subst p11
      subst q11
      exact ⟨⟨x0, x1, x2, x3, x4, x5, x6, x7, x8, x9, x10, y10, x11, y11⟩, rfl, w5, w6, w10, u10, w11, u11⟩
set_option maxHeartbeats 2000000 in
theorem ard_args {n : Nat} {cs : List Value} {d : DataW H} (r : ARd Try.prog h (n + 4) 30 cs d) : ∃ a : AR, cs = a.cells ∧ a.WF ∧ Row h a.dv a.data ∧ inH h a.dv ∧ (Rows.uptoBulk d ≤ 1048576 → a.Modest) := by
  unfold ARd at r
  rw [Try.underlying30] at r
  obtain ⟨ds, hag, hl, hd, hf⟩ := r
  have cz : Try.prog.cellsOf 30 = 36 := by kernel_rfl
  rw [cz] at hl
  have hdn : ds.length = 22 := hd
  obtain ⟨c0, tc0, rfl, hl_0⟩ := len_succ hl
  obtain ⟨c1, tc1, rfl, hl_1⟩ := len_succ hl_0
  obtain ⟨c2, tc2, rfl, hl_2⟩ := len_succ hl_1
  obtain ⟨c3, tc3, rfl, hl_3⟩ := len_succ hl_2
  obtain ⟨c4, tc4, rfl, hl_4⟩ := len_succ hl_3
  obtain ⟨c5, tc5, rfl, hl_5⟩ := len_succ hl_4
  obtain ⟨c6, tc6, rfl, hl_6⟩ := len_succ hl_5
  obtain ⟨c7, tc7, rfl, hl_7⟩ := len_succ hl_6
  obtain ⟨c8, tc8, rfl, hl_8⟩ := len_succ hl_7
  obtain ⟨c9, tc9, rfl, hl_9⟩ := len_succ hl_8
  obtain ⟨c10, tc10, rfl, hl_10⟩ := len_succ hl_9
  obtain ⟨c11, tc11, rfl, hl_11⟩ := len_succ hl_10
  obtain ⟨c12, tc12, rfl, hl_12⟩ := len_succ hl_11
  obtain ⟨c13, tc13, rfl, hl_13⟩ := len_succ hl_12
  obtain ⟨c14, tc14, rfl, hl_14⟩ := len_succ hl_13
  obtain ⟨c15, tc15, rfl, hl_15⟩ := len_succ hl_14
  obtain ⟨c16, tc16, rfl, hl_16⟩ := len_succ hl_15
  obtain ⟨c17, tc17, rfl, hl_17⟩ := len_succ hl_16
  obtain ⟨c18, tc18, rfl, hl_18⟩ := len_succ hl_17
  obtain ⟨c19, tc19, rfl, hl_19⟩ := len_succ hl_18
  obtain ⟨c20, tc20, rfl, hl_20⟩ := len_succ hl_19
  obtain ⟨c21, tc21, rfl, hl_21⟩ := len_succ hl_20
  obtain ⟨c22, tc22, rfl, hl_22⟩ := len_succ hl_21
  obtain ⟨c23, tc23, rfl, hl_23⟩ := len_succ hl_22
  obtain ⟨c24, tc24, rfl, hl_24⟩ := len_succ hl_23
  obtain ⟨c25, tc25, rfl, hl_25⟩ := len_succ hl_24
  obtain ⟨c26, tc26, rfl, hl_26⟩ := len_succ hl_25
  obtain ⟨c27, tc27, rfl, hl_27⟩ := len_succ hl_26
  obtain ⟨c28, tc28, rfl, hl_28⟩ := len_succ hl_27
  obtain ⟨c29, tc29, rfl, hl_29⟩ := len_succ hl_28
  obtain ⟨c30, tc30, rfl, hl_30⟩ := len_succ hl_29
  obtain ⟨c31, tc31, rfl, hl_31⟩ := len_succ hl_30
  obtain ⟨c32, tc32, rfl, hl_32⟩ := len_succ hl_31
  obtain ⟨c33, tc33, rfl, hl_33⟩ := len_succ hl_32
  obtain ⟨c34, tc34, rfl, hl_34⟩ := len_succ hl_33
  obtain ⟨c35, tc35, rfl, hl_35⟩ := len_succ hl_34
  obtain rfl := List.eq_nil_of_length_eq_zero hl_35
  obtain ⟨d0, td0, rfl, hdn_0⟩ := len_succ hdn
  obtain ⟨d1, td1, rfl, hdn_1⟩ := len_succ hdn_0
  obtain ⟨d2, td2, rfl, hdn_2⟩ := len_succ hdn_1
  obtain ⟨d3, td3, rfl, hdn_3⟩ := len_succ hdn_2
  obtain ⟨d4, td4, rfl, hdn_4⟩ := len_succ hdn_3
  obtain ⟨d5, td5, rfl, hdn_5⟩ := len_succ hdn_4
  obtain ⟨d6, td6, rfl, hdn_6⟩ := len_succ hdn_5
  obtain ⟨d7, td7, rfl, hdn_7⟩ := len_succ hdn_6
  obtain ⟨d8, td8, rfl, hdn_8⟩ := len_succ hdn_7
  obtain ⟨d9, td9, rfl, hdn_9⟩ := len_succ hdn_8
  obtain ⟨d10, td10, rfl, hdn_10⟩ := len_succ hdn_9
  obtain ⟨d11, td11, rfl, hdn_11⟩ := len_succ hdn_10
  obtain ⟨d12, td12, rfl, hdn_12⟩ := len_succ hdn_11
  obtain ⟨d13, td13, rfl, hdn_13⟩ := len_succ hdn_12
  obtain ⟨d14, td14, rfl, hdn_14⟩ := len_succ hdn_13
  obtain ⟨d15, td15, rfl, hdn_15⟩ := len_succ hdn_14
  obtain ⟨d16, td16, rfl, hdn_16⟩ := len_succ hdn_15
  obtain ⟨d17, td17, rfl, hdn_17⟩ := len_succ hdn_16
  obtain ⟨d18, td18, rfl, hdn_18⟩ := len_succ hdn_17
  obtain ⟨d19, td19, rfl, hdn_19⟩ := len_succ hdn_18
  obtain ⟨d20, td20, rfl, hdn_20⟩ := len_succ hdn_19
  obtain ⟨d21, td21, rfl, hdn_21⟩ := len_succ hdn_20
  obtain rfl := List.eq_nil_of_length_eq_zero hdn_21
  · skip
    · skip
      have z_bool : Try.prog.cellsOf 4 = 1 := by kernel_rfl
      have z_int : Try.prog.cellsOf 3 = 1 := by kernel_rfl
      have z_row : Try.prog.cellsOf 22 = 1 := by kernel_rfl
      have z_sattr : Try.prog.cellsOf 28 = 14 := by kernel_rfl
      have z_str : Try.prog.cellsOf 9 = 1 := by kernel_rfl
      have z_time : Try.prog.cellsOf 26 = 2 := by kernel_rfl
      have z_u32 : Try.prog.cellsOf 23 = 1 := by kernel_rfl
      have z_u64 : Try.prog.cellsOf 24 = 1 := by kernel_rfl
      have f0 : ARd Try.prog h (n + 3) 9 (([c0, c1, c2, c3, c4, c5, c6, c7, c8, c9, c10, c11, c12, c13, c14, c15, c16, c17, c18, c19, c20, c21, c22, c23, c24, c25, c26, c27, c28, c29, c30, c31, c32, c33, c34, c35].drop 0).take (Try.prog.cellsOf 9)) d0 := hf 0 _ d0 rfl rfl
      rw [z_str] at f0
      have f1 : ARd Try.prog h (n + 3) 9 (([c0, c1, c2, c3, c4, c5, c6, c7, c8, c9, c10, c11, c12, c13, c14, c15, c16, c17, c18, c19, c20, c21, c22, c23, c24, c25, c26, c27, c28, c29, c30, c31, c32, c33, c34, c35].drop 1).take (Try.prog.cellsOf 9)) d1 := hf 1 _ d1 rfl rfl
      rw [z_str] at f1
      have f2 : ARd Try.prog h (n + 3) 9 (([c0, c1, c2, c3, c4, c5, c6, c7, c8, c9, c10, c11, c12, c13, c14, c15, c16, c17, c18, c19, c20, c21, c22, c23, c24, c25, c26, c27, c28, c29, c30, c31, c32, c33, c34, c35].drop 2).take (Try.prog.cellsOf 9)) d2 := hf 2 _ d2 rfl rfl
      rw [z_str] at f2
      have f3 : ARd Try.prog h (n + 3) 9 (([c0, c1, c2, c3, c4, c5, c6, c7, c8, c9, c10, c11, c12, c13, c14, c15, c16, c17, c18, c19, c20, c21, c22, c23, c24, c25, c26, c27, c28, c29, c30, c31, c32, c33, c34, c35].drop 3).take (Try.prog.cellsOf 9)) d3 := hf 3 _ d3 rfl rfl
      rw [z_str] at f3
      have f4 : ARd Try.prog h (n + 3) 9 (([c0, c1, c2, c3, c4, c5, c6, c7, c8, c9, c10, c11, c12, c13, c14, c15, c16, c17, c18, c19, c20, c21, c22, c23, c24, c25, c26, c27, c28, c29, c30, c31, c32, c33, c34, c35].drop 4).take (Try.prog.cellsOf 9)) d4 := hf 4 _ d4 rfl rfl
      rw [z_str] at f4
      have f5 : ARd Try.prog h (n + 3) 28 (([c0, c1, c2, c3, c4, c5, c6, c7, c8, c9, c10, c11, c12, c13, c14, c15, c16, c17, c18, c19, c20, c21, c22, c23, c24, c25, c26, c27, c28, c29, c30, c31, c32, c33, c34, c35].drop 5).take (Try.prog.cellsOf 28)) d5 := hf 5 _ d5 rfl rfl
      rw [z_sattr] at f5
      have f6 : ARd Try.prog h (n + 3) 4 (([c0, c1, c2, c3, c4, c5, c6, c7, c8, c9, c10, c11, c12, c13, c14, c15, c16, c17, c18, c19, c20, c21, c22, c23, c24, c25, c26, c27, c28, c29, c30, c31, c32, c33, c34, c35].drop 19).take (Try.prog.cellsOf 4)) d6 := hf 6 _ d6 rfl rfl
      rw [z_bool] at f6
      have f7 : ARd Try.prog h (n + 3) 26 (([c0, c1, c2, c3, c4, c5, c6, c7, c8, c9, c10, c11, c12, c13, c14, c15, c16, c17, c18, c19, c20, c21, c22, c23, c24, c25, c26, c27, c28, c29, c30, c31, c32, c33, c34, c35].drop 20).take (Try.prog.cellsOf 26)) d7 := hf 7 _ d7 rfl rfl
      rw [z_time] at f7
      have f8 : ARd Try.prog h (n + 3) 23 (([c0, c1, c2, c3, c4, c5, c6, c7, c8, c9, c10, c11, c12, c13, c14, c15, c16, c17, c18, c19, c20, c21, c22, c23, c24, c25, c26, c27, c28, c29, c30, c31, c32, c33, c34, c35].drop 22).take (Try.prog.cellsOf 23)) d8 := hf 8 _ d8 rfl rfl
      rw [z_u32] at f8
      have f9 : ARd Try.prog h (n + 3) 24 (([c0, c1, c2, c3, c4, c5, c6, c7, c8, c9, c10, c11, c12, c13, c14, c15, c16, c17, c18, c19, c20, c21, c22, c23, c24, c25, c26, c27, c28, c29, c30, c31, c32, c33, c34, c35].drop 23).take (Try.prog.cellsOf 24)) d9 := hf 9 _ d9 rfl rfl
      rw [z_u64] at f9
      have f10 : ARd Try.prog h (n + 3) 23 (([c0, c1, c2, c3, c4, c5, c6, c7, c8, c9, c10, c11, c12, c13, c14, c15, c16, c17, c18, c19, c20, c21, c22, c23, c24, c25, c26, c27, c28, c29, c30, c31, c32, c33, c34, c35].drop 24).take (Try.prog.cellsOf 23)) d10 := hf 10 _ d10 rfl rfl
      rw [z_u32] at f10
      have f11 : ARd Try.prog h (n + 3) 3 (([c0, c1, c2, c3, c4, c5, c6, c7, c8, c9, c10, c11, c12, c13, c14, c15, c16, c17, c18, c19, c20, c21, c22, c23, c24, c25, c26, c27, c28, c29, c30, c31, c32, c33, c34, c35].drop 25).take (Try.prog.cellsOf 3)) d11 := hf 11 _ d11 rfl rfl
      rw [z_int] at f11
      have f12 : ARd Try.prog h (n + 3) 3 (([c0, c1, c2, c3, c4, c5, c6, c7, c8, c9, c10, c11, c12, c13, c14, c15, c16, c17, c18, c19, c20, c21, c22, c23, c24, c25, c26, c27, c28, c29, c30, c31, c32, c33, c34, c35].drop 26).take (Try.prog.cellsOf 3)) d12 := hf 12 _ d12 rfl rfl
      rw [z_int] at f12
      have f13 : ARd Try.prog h (n + 3) 3 (([c0, c1, c2, c3, c4, c5, c6, c7, c8, c9, c10, c11, c12, c13, c14, c15, c16, c17, c18, c19, c20, c21, c22, c23, c24, c25, c26, c27, c28, c29, c30, c31, c32, c33, c34, c35].drop 27).take (Try.prog.cellsOf 3)) d13 := hf 13 _ d13 rfl rfl
      rw [z_int] at f13
      have f14 : ARd Try.prog h (n + 3) 22 (([c0, c1, c2, c3, c4, c5, c6, c7, c8, c9, c10, c11, c12, c13, c14, c15, c16, c17, c18, c19, c20, c21, c22, c23, c24, c25, c26, c27, c28, c29, c30, c31, c32, c33, c34, c35].drop 28).take (Try.prog.cellsOf 22)) d14 := hf 14 _ d14 rfl rfl
      rw [z_row] at f14
      have f15 : ARd Try.prog h (n + 3) 24 (([c0, c1, c2, c3, c4, c5, c6, c7, c8, c9, c10, c11, c12, c13, c14, c15, c16, c17, c18, c19, c20, c21, c22, c23, c24, c25, c26, c27, c28, c29, c30, c31, c32, c33, c34, c35].drop 29).take (Try.prog.cellsOf 24)) d15 := hf 15 _ d15 rfl rfl
      rw [z_u64] at f15
      have f16 : ARd Try.prog h (n + 3) 24 (([c0, c1, c2, c3, c4, c5, c6, c7, c8, c9, c10, c11, c12, c13, c14, c15, c16, c17, c18, c19, c20, c21, c22, c23, c24, c25, c26, c27, c28, c29, c30, c31, c32, c33, c34, c35].drop 30).take (Try.prog.cellsOf 24)) d16 := hf 16 _ d16 rfl rfl
      rw [z_u64] at f16
      have f17 : ARd Try.prog h (n + 3) 24 (([c0, c1, c2, c3, c4, c5, c6, c7, c8, c9, c10, c11, c12, c13, c14, c15, c16, c17, c18, c19, c20, c21, c22, c23, c24, c25, c26, c27, c28, c29, c30, c31, c32, c33, c34, c35].drop 31).take (Try.prog.cellsOf 24)) d17 := hf 17 _ d17 rfl rfl
      rw [z_u64] at f17
      have f18 : ARd Try.prog h (n + 3) 23 (([c0, c1, c2, c3, c4, c5, c6, c7, c8, c9, c10, c11, c12, c13, c14, c15, c16, c17, c18, c19, c20, c21, c22, c23, c24, c25, c26, c27, c28, c29, c30, c31, c32, c33, c34, c35].drop 32).take (Try.prog.cellsOf 23)) d18 := hf 18 _ d18 rfl rfl
      rw [z_u32] at f18
      have f19 : ARd Try.prog h (n + 3) 23 (([c0, c1, c2, c3, c4, c5, c6, c7, c8, c9, c10, c11, c12, c13, c14, c15, c16, c17, c18, c19, c20, c21, c22, c23, c24, c25, c26, c27, c28, c29, c30, c31, c32, c33, c34, c35].drop 33).take (Try.prog.cellsOf 23)) d19 := hf 19 _ d19 rfl rfl
      rw [z_u32] at f19
      have f20 : ARd Try.prog h (n + 3) 23 (([c0, c1, c2, c3, c4, c5, c6, c7, c8, c9, c10, c11, c12, c13, c14, c15, c16, c17, c18, c19, c20, c21, c22, c23, c24, c25, c26, c27, c28, c29, c30, c31, c32, c33, c34, c35].drop 34).take (Try.prog.cellsOf 23)) d20 := hf 20 _ d20 rfl rfl
      rw [z_u32] at f20
      have f21 : ARd Try.prog h (n + 3) 23 (([c0, c1, c2, c3, c4, c5, c6, c7, c8, c9, c10, c11, c12, c13, c14, c15, c16, c17, c18, c19, c20, c21, c22, c23, c24, c25, c26, c27, c28, c29, c30, c31, c32, c33, c34, c35].drop 35).take (Try.prog.cellsOf 23)) d21 := hf 21 _ d21 rfl rfl
      rw [z_u32] at f21
      obtain ⟨x0, e0, b0⟩ := ard_str Try.underlying9 f0
      injection e0 with e0
      subst e0
      obtain ⟨x1, e1, b1⟩ := ard_str Try.underlying9 f1
      injection e1 with e1
      subst e1
      obtain ⟨x2, e2, b2⟩ := ard_str Try.underlying9 f2
      injection e2 with e2
      subst e2
      obtain ⟨x3, e3, b3⟩ := ard_str Try.underlying9 f3
      injection e3 with e3
      subst e3
      obtain ⟨x4, e4, b4⟩ := ard_str Try.underlying9 f4
      injection e4 with e4
      subst e4
      obtain ⟨x5, e5, w5⟩ := ard_sattr f5
      have e5' : [c5, c6, c7, c8, c9, c10, c11, c12, c13, c14, c15, c16, c17, c18] = x5.cells := e5
      simp only [SA.cells, List.cons.injEq, and_true] at e5'
      obtain ⟨g5_0, g5_1, g5_2, g5_3, g5_4, g5_5, g5_6, g5_7, g5_8, g5_9, g5_10, g5_11, g5_12, g5_13⟩ := e5'
      subst g5_0
      subst g5_1
      subst g5_2
      subst g5_3
      subst g5_4
      subst g5_5
      subst g5_6
      subst g5_7
      subst g5_8
      subst g5_9
      subst g5_10
      subst g5_11
      subst g5_12
      subst g5_13
      obtain ⟨x6, e6⟩ := ard_bool Try.underlying4 f6
      injection e6 with e6
      subst e6
      obtain ⟨x7, y7, e7, w7, u7⟩ := ard_time f7
      have e7' : [c20, c21] = _ := e7
      injection e7' with p7 q7
      injection q7 with q7
      subst p7
      subst q7
      obtain ⟨x8, e8, w8⟩ := ard_int Try.underlying23 f8
      injection e8 with e8
      subst e8
      replace w8 := wf_u32 w8
      obtain ⟨x9, e9, w9⟩ := ard_int Try.underlying24 f9
      injection e9 with e9
      subst e9
      obtain ⟨x10, e10, w10⟩ := ard_int Try.underlying23 f10
      injection e10 with e10
      subst e10
      replace w10 := wf_u32 w10
      obtain ⟨x11, e11, w11⟩ := ard_int Try.underlying3 f11
      injection e11 with e11
      subst e11
      obtain ⟨x12, e12, w12⟩ := ard_int Try.underlying3 f12
      injection e12 with e12
      subst e12
      obtain ⟨x13, e13, w13⟩ := ard_int Try.underlying3 f13
      injection e13 with e13
      subst e13
      obtain ⟨v14, y14, e14, r14, i14, s14, b14⟩ := ard_row f14
      injection e14 with e14
      subst e14
      obtain ⟨x15, e15, w15⟩ := ard_int Try.underlying24 f15
      injection e15 with e15
      subst e15
      obtain ⟨x16, e16, w16⟩ := ard_int Try.underlying24 f16
      injection e16 with e16
      subst e16
      obtain ⟨x17, e17, w17⟩ := ard_int Try.underlying24 f17
      injection e17 with e17
      subst e17
      obtain ⟨x18, e18, w18⟩ := ard_int Try.underlying23 f18
      injection e18 with e18
      subst e18
      replace w18 := wf_u32 w18
      obtain ⟨x19, e19, w19⟩ := ard_int Try.underlying23 f19
      injection e19 with e19
      subst e19
      replace w19 := wf_u32 w19
      obtain ⟨x20, e20, w20⟩ := ard_int Try.underlying23 f20
      injection e20 with e20
      subst e20
      replace w20 := wf_u32 w20
      obtain ⟨x21, e21, w21⟩ := ard_int Try.underlying23 f21
      injection e21 with e21
      subst e21
      replace w21 := wf_u32 w21
      refine ⟨⟨x0, x1, x2, x3, x4, x5, x6, x7, y7, x8, x9, x10, x11, x12, x13, c28, strB y14, x15, x16, x17, x18, x19, x20, x21⟩, rfl, ⟨w5, w7, u7, w8, w10, w18, w19, w20, w21, s14, y14, rfl⟩, r14, i14, fun hb => ?_⟩
      rw [hag] at hb
      simp only [Rows.uptoBulk, Rows.uptoBulkAll] at hb
      refine ⟨?_, ?_, ?_, ?_, ?_, ?_⟩ <;> dsimp only <;> omega
end
theorem AR.WF.ok {a : AR} (w : a.WF) (h1 : a.file.size + a.to.size + a.name.size + a.toName.size + a.path.size + a.data.length < 30000) : a.OK :=
  ⟨w.set, w.g1, w.g2, w.access, w.count, w.dirCount, w.maxCount, w.spec1, w.spec2, by omega, by omega, by omega, by omega, by omega, by omega, by obtain ⟨s, e⟩ := w.dStr; rw [e]; exact strB_one s, w.dSl⟩
end Go.Proofs.Ytanknjpcgceccaa

namespace Go.Proofs.Ytanknjpcgceccaa
open Go Go.AM
set_option linter.unusedSimpArgs false
set_option maxRecDepth 100000
attribute [local irreducible] WOps WV WH WSt WNil WPick WGd
section
variable {P : Program} {g : TypeId → Value → Value → Option Bool} {xs ys : Array Value} {f : Field} {fs : List Field}
theorem eqFs_step {a b : Value} {r s : Bool} (hn : f.name ≠ "_") (ha : aPart P f.type xs f.offset = some a) (hb : aPart P f.type ys f.offset = some b) (hg : g f.type a b = some r) (ih : eqFs g P xs ys fs = some s) : eqFs g P xs ys (f :: fs) = some (r && s) := by
  simp only [eqFs]
  rw [if_pos hn, ha, hb]
  simp only [hg]
  cases r
  · rfl
  · simp only [ih, Bool.true_and]
theorem aEqF_struct {d : Nat} {t : TypeId} {fs : Array Field} {r : Bool} (hu : P.underlying t = some (.struct fs)) (hs : P.stoodInHeld t = false) (he : eqFs (fun t a b => aEqF d P t a b) P xs ys fs.toList = some r) : aEqF (d + 1) P t (.agg xs) (.agg ys) = some r := by
  unfold aEqF
  rw [hu]
  simp only [hs, Bool.false_eq_true, if_false]
  exact he
theorem bin_struct {t : TypeId} {xo yo : Operand} {r : Bool} (hg : P.eqGuardType P.depth t = false) (he : aEqF 8 P t (.agg xs) (.agg ys) = some r) : aBin P .eql t xo yo (.agg xs) (.agg ys) = some (.bool r) ∧ aBin P .neq t xo yo (.agg xs) (.agg ys) = some (.bool (!r)) := by
  simp [aBin, hg, he]
theorem bin_str {t : TypeId} {xo yo : Operand} {a b : ByteArray} : aBin P .eql t xo yo (.string a) (.string b) = some (.bool (a.data.toList == b.data.toList)) := by simp [aBin, aStrBin]
end
theorem bin_boolE {xo yo : Operand} {a b : Bool} : aBin Try.prog .eql 4 xo yo (.bool a) (.bool b) = some (.bool (a == b)) := by simp [aBin, aEqF, Try.underlying4]
def eqT (a b c d : Int) : Bool := (a == c) && ((b == d) && true)
theorem st_time : Try.prog.stoodInHeld 26 = false := by kernel_rfl
theorem gd_time : Try.prog.eqGuardType Try.prog.depth 26 = false := by kernel_rfl
theorem eq_time (n : Nat) (a b c d : Int) : aEqF (n + 2) Try.prog 26 (.agg #[.int .u32 a, .int .u32 b]) (.agg #[.int .u32 c, .int .u32 d]) = some (eqT a b c d) :=
  aEqF_struct Try.underlying26 st_time (eqFs_step (by decide) rfl rfl rfl (eqFs_step (by decide) rfl rfl rfl rfl))
theorem bin_time {xo yo : Operand} {a b c d : Int} : aBin Try.prog .eql 26 xo yo (.agg #[.int .u32 a, .int .u32 b]) (.agg #[.int .u32 c, .int .u32 d]) = some (.bool (eqT a b c d)) := (bin_struct gd_time (eq_time 6 a b c d)).1
def SA.eq (s t : SA) : Bool := (s.hm == t.hm) && ((s.hu == t.hu) && ((s.hg == t.hg) && ((s.hs == t.hs) && ((s.mode == t.mode) && ((s.uid == t.uid) && ((s.gid == t.gid) && ((s.size == t.size) && ((s.ah == t.ah) && ((s.mh == t.mh) && (eqT s.a1 s.a2 t.a1 t.a2 && (eqT s.m1 s.m2 t.m1 t.m2 && true)))))))))))
theorem st_sattr : Try.prog.stoodInHeld 28 = false := by kernel_rfl
theorem gd_sattr : Try.prog.eqGuardType Try.prog.depth 28 = false := by kernel_rfl
theorem eq_sattr (n : Nat) (s t : SA) : aEqF (n + 3) Try.prog 28 (.agg s.cells.toArray) (.agg t.cells.toArray) = some (s.eq t) :=
  aEqF_struct Try.underlying28 st_sattr (eqFs_step (by decide) rfl rfl rfl (eqFs_step (by decide) rfl rfl rfl (eqFs_step (by decide) rfl rfl rfl (eqFs_step (by decide) rfl rfl rfl (eqFs_step (by decide) rfl rfl rfl (eqFs_step (by decide) rfl rfl rfl (eqFs_step (by decide) rfl rfl rfl (eqFs_step (by decide) rfl rfl rfl (eqFs_step (by decide) rfl rfl rfl (eqFs_step (by decide) rfl rfl rfl (eqFs_step (by decide) rfl rfl (eq_time _ _ _ _ _) (eqFs_step (by decide) rfl rfl (eq_time _ _ _ _ _) rfl))))))))))))
theorem bin_sattr {xo yo : Operand} {s t : SA} : aBin Try.prog .eql 28 xo yo (.agg s.cells.toArray) (.agg t.cells.toArray) = some (.bool (s.eq t)) := (bin_struct gd_sattr (eq_sattr 5 s t)).1
def AR.eq (a b : AR) : Bool := (a.file.data.toList == b.file.data.toList) && (a.to.data.toList == b.to.data.toList) && (a.name.data.toList == b.name.data.toList) && (a.toName.data.toList == b.toName.data.toList) && (a.path.data.toList == b.path.data.toList) && a.set.eq b.set && (a.guard == b.guard) && eqT a.g1 a.g2 b.g1 b.g2 && (a.access == b.access) && (a.offset == b.offset) && (a.count == b.count) && (a.stable == b.stable) && (a.mode == b.mode) && (a.type == b.type) && ((strS a.data).data.toList == (strS b.data).data.toList) && (a.verf == b.verf) && (a.cookie == b.cookie) && (a.cookieVerf == b.cookieVerf) && (a.dirCount == b.dirCount) && (a.maxCount == b.maxCount) && (a.spec1 == b.spec1) && (a.spec2 == b.spec2)
section
variable {h : Heap} {k : Nat} {a : AR} {T : TypeId}
theorem ldCell {t : TypeId} {d : TypeDesc} {cs : List Value} {o : Nat} {v : Value} (hg : h.get k = some (.cells cs T false)) (hu : Try.prog.underlying t = some d) (h1 : ∀ fs, d ≠ .struct fs) (h2 : ∀ n e, d ≠ .array n e) (hv : cs[o]? = some v) : aLoad Try.prog h t (pt k o) = some v := by rw [aLoad_at hu h1 h2 hg o, hv]
theorem ldAgg {t : TypeId} {i : TypeInfo} {fs : Array Field} {cs : List Value} {o : Nat} {v : List Value} (hg : h.get k = some (.cells cs T false)) (hu : Try.prog.underlying t = some (.struct fs)) (hi : Try.prog.info? t = some i) (ho : o + i.size ≤ cs.length) (hv : (cs.drop o).take i.size = v) : aLoad Try.prog h t (pt k o) = some (.agg v.toArray) := by
  rw [aLoad_struct hu hi, rdN, hg]
  have : Nat.ble (o + i.size) cs.length = true := ble_iff.2 ho
  simp [this, hv]
theorem ldAR (hg : h.get k = some (.cells a.cells T false)) : aLoad Try.prog h 9 (pt k 0) = some (.string a.file) ∧
    aLoad Try.prog h 9 (pt k 1) = some (.string a.to) ∧
    aLoad Try.prog h 9 (pt k 2) = some (.string a.name) ∧
    aLoad Try.prog h 9 (pt k 3) = some (.string a.toName) ∧
    aLoad Try.prog h 9 (pt k 4) = some (.string a.path) ∧
    aLoad Try.prog h 28 (pt k 5) = some (.agg a.set.cells.toArray) ∧
    aLoad Try.prog h 4 (pt k 19) = some (.bool a.guard) ∧
    aLoad Try.prog h 26 (pt k 20) = some (.agg #[.int .u32 a.g1, .int .u32 a.g2]) ∧
    aLoad Try.prog h 23 (pt k 22) = some (.int .u32 a.access) ∧
    aLoad Try.prog h 24 (pt k 23) = some (.int .u64 a.offset) ∧
    aLoad Try.prog h 23 (pt k 24) = some (.int .u32 a.count) ∧
    aLoad Try.prog h 3 (pt k 25) = some (.int .i64 a.stable) ∧
    aLoad Try.prog h 3 (pt k 26) = some (.int .i64 a.mode) ∧
    aLoad Try.prog h 3 (pt k 27) = some (.int .i64 a.type) ∧
    aLoad Try.prog h 22 (pt k 28) = some (a.dv) ∧
    aLoad Try.prog h 24 (pt k 29) = some (.int .u64 a.verf) ∧
    aLoad Try.prog h 24 (pt k 30) = some (.int .u64 a.cookie) ∧
    aLoad Try.prog h 24 (pt k 31) = some (.int .u64 a.cookieVerf) ∧
    aLoad Try.prog h 23 (pt k 32) = some (.int .u32 a.dirCount) ∧
    aLoad Try.prog h 23 (pt k 33) = some (.int .u32 a.maxCount) ∧
    aLoad Try.prog h 23 (pt k 34) = some (.int .u32 a.spec1) ∧
    aLoad Try.prog h 23 (pt k 35) = some (.int .u32 a.spec2) :=
  ⟨ldCell hg Try.underlying9 (by simp) (by simp) rfl,
  ldCell hg Try.underlying9 (by simp) (by simp) rfl,
  ldCell hg Try.underlying9 (by simp) (by simp) rfl,
  ldCell hg Try.underlying9 (by simp) (by simp) rfl,
  ldCell hg Try.underlying9 (by simp) (by simp) rfl,
  ldAgg hg Try.underlying28 (show Try.prog.info? 28 = some Try.t28 by kernel_rfl) (by show 5 + 14 ≤ _; simp [AR.cells, SA.cells]) rfl,
  ldCell hg Try.underlying4 (by simp) (by simp) rfl,
  ldAgg (v := [.int .u32 a.g1, .int .u32 a.g2]) hg Try.underlying26 iTime (by show 20 + 2 ≤ _; simp [AR.cells, SA.cells]) rfl,
  ldCell hg Try.underlying23 (by simp) (by simp) rfl,
  ldCell hg Try.underlying24 (by simp) (by simp) rfl,
  ldCell hg Try.underlying23 (by simp) (by simp) rfl,
  ldCell hg Try.underlying3 (by simp) (by simp) rfl,
  ldCell hg Try.underlying3 (by simp) (by simp) rfl,
  ldCell hg Try.underlying3 (by simp) (by simp) rfl,
  ldCell hg Try.underlying22 (by simp) (by simp) rfl,
  ldCell hg Try.underlying24 (by simp) (by simp) rfl,
  ldCell hg Try.underlying24 (by simp) (by simp) rfl,
  ldCell hg Try.underlying24 (by simp) (by simp) rfl,
  ldCell hg Try.underlying23 (by simp) (by simp) rfl,
  ldCell hg Try.underlying23 (by simp) (by simp) rfl,
  ldCell hg Try.underlying23 (by simp) (by simp) rfl,
  ldCell hg Try.underlying23 (by simp) (by simp) rfl⟩
end
set_option maxHeartbeats 8000000 in
theorem sameArgsX_am (a b : AR) (h : Heap) (ha : ∃ x n c, a.dv = .slice x n c) (hb : ∃ x n c, b.dv = .slice x n c) (ra : Row h a.dv a.data) (rb : Row h b.dv b.data) (ba : isB a.data) (bb : isB b.data) :
    Cl Try.prog 14 [.agg a.cells.toArray, .agg b.cells.toArray] h fun v h' => v = .bool (a.eq b) ∧ Same h h' noS := by
  refine Cl.enter Try.func14 rfl _ Try.ntmps14 (by simp) ?_
  intro env hl ha
  have h0 : sl env 0 = .agg a.cells.toArray := ha 0 (by simp)
  have h1 : sl env 1 = .agg b.cells.toArray := ha 1 (by simp)
  clear ha
  have oneA : a.cells.all Value.oneCell' = true := by obtain ⟨x, n, c, e⟩ := ha; simp [AR.cells, SA.cells, Value.oneCell', e]
  have oneB : b.cells.all Value.oneCell' = true := by obtain ⟨x, n, c, e⟩ := hb; simp [AR.cells, SA.cells, Value.oneCell', e]
  have xa : aBox h 30 (.agg a.cells.toArray) = some (pt h.next 0, h.push (.cells a.cells TA false)) := by simp [aBox, aNew, Value.cells, oneA]
  have xb : aBox (h.push (.cells a.cells TA false)) 30 (.agg b.cells.toArray) = some (pt (h.push (.cells a.cells TA false)).next 0, (h.push (.cells a.cells TA false)).push (.cells b.cells TA false)) := by simp [aBox, aNew, Value.cells, oneB]
  have sm : Same h ((h.push (.cells a.cells TA false)).push (.cells b.cells TA false)) noS := (Same.push _ _ _).trans (Same.push _ _ _) (fun _ x => x) (fun _ _ x => x)
  have ga : ((h.push (.cells a.cells TA false)).push (.cells b.cells TA false)).get h.next = some (.cells a.cells TA false) := Heap.get_push_old Heap.get_push_new
  have gb : ((h.push (.cells a.cells TA false)).push (.cells b.cells TA false)).get (h.push (.cells a.cells TA false)).next = some (.cells b.cells TA false) := Heap.get_push_new
  generalize hh2 : (h.push (.cells a.cells TA false)).push (.cells b.cells TA false) = h2 at xb sm ga gb
  generalize (h.push (.cells a.cells TA false)).next = kb at xb gb
  generalize h.push (.cells a.cells TA false) = h1' at xa xb
  generalize h.next = ka at xa ga
  have la := ldAR ga
  have lb := ldAR gb
  have cva := conv_row (ra.same sm (fun _ _ _ _ _ x => x)) ba
  have cvb := conv_row (rb.same sm (fun _ _ _ _ _ x => x)) bb
  clear hh2 ra rb ga gb
  cases e0 : (a.file.data.toList == b.file.data.toList)
  · skip
    repeat (first | (with_reducible refine Wp.st ?_; simp only [wS]) | with_reducible refine Wp.drawS (by decide +kernel) ?_ | simp (disch := (first | (simp only [List.length_set, hl]; omega) | omega | rfl)) only [walkA, walkB, bne_self_eq_false, beq_self_eq_true, Option.map_some, Option.map_none, reduceIte, decide_true, decide_false, Int.reduceLT, Int.reduceLE, Int.reduceMul, Int.reduceAdd, Int.reduceSub, List.append_eq, List.cons_append, List.nil_append, h0, h1, xa, xb, la, lb, cva, cvb, bin_str, bin_boolE, bin_time, bin_sattr, faA0, faA1, faA2, faA3, faA4, faA5, faA6, faA7, faA8, faA9, faA10, faA11, faA12, faA13, faA14, faA15, faA16, faA17, faA18, faA19, faA20, faA21, e0])
    simp (disch := (first | (simp only [List.length_set, hl]; omega) | omega | rfl)) only [aRes_one Try.results14, sL]
    exact ⟨by simp [AR.eq, e0], sm⟩
  cases e1 : (a.to.data.toList == b.to.data.toList)
  · skip
    repeat (first | (with_reducible refine Wp.st ?_; simp only [wS]) | with_reducible refine Wp.drawS (by decide +kernel) ?_ | simp (disch := (first | (simp only [List.length_set, hl]; omega) | omega | rfl)) only [walkA, walkB, bne_self_eq_false, beq_self_eq_true, Option.map_some, Option.map_none, reduceIte, decide_true, decide_false, Int.reduceLT, Int.reduceLE, Int.reduceMul, Int.reduceAdd, Int.reduceSub, List.append_eq, List.cons_append, List.nil_append, h0, h1, xa, xb, la, lb, cva, cvb, bin_str, bin_boolE, bin_time, bin_sattr, faA0, faA1, faA2, faA3, faA4, faA5, faA6, faA7, faA8, faA9, faA10, faA11, faA12, faA13, faA14, faA15, faA16, faA17, faA18, faA19, faA20, faA21, e0, e1])
    simp (disch := (first | (simp only [List.length_set, hl]; omega) | omega | rfl)) only [aRes_one Try.results14, sL]
    exact ⟨by simp [AR.eq, e0, e1], sm⟩
  cases e2 : (a.name.data.toList == b.name.data.toList)
  · skip
    repeat (first | (with_reducible refine Wp.st ?_; simp only [wS]) | with_reducible refine Wp.drawS (by decide +kernel) ?_ | simp (disch := (first | (simp only [List.length_set, hl]; omega) | omega | rfl)) only [walkA, walkB, bne_self_eq_false, beq_self_eq_true, Option.map_some, Option.map_none, reduceIte, decide_true, decide_false, Int.reduceLT, Int.reduceLE, Int.reduceMul, Int.reduceAdd, Int.reduceSub, List.append_eq, List.cons_append, List.nil_append, h0, h1, xa, xb, la, lb, cva, cvb, bin_str, bin_boolE, bin_time, bin_sattr, faA0, faA1, faA2, faA3, faA4, faA5, faA6, faA7, faA8, faA9, faA10, faA11, faA12, faA13, faA14, faA15, faA16, faA17, faA18, faA19, faA20, faA21, e0, e1, e2])
    simp (disch := (first | (simp only [List.length_set, hl]; omega) | omega | rfl)) only [aRes_one Try.results14, sL]
    exact ⟨by simp [AR.eq, e0, e1, e2], sm⟩
  cases e3 : (a.toName.data.toList == b.toName.data.toList)
  · skip
    repeat (first | (with_reducible refine Wp.st ?_; simp only [wS]) | with_reducible refine Wp.drawS (by decide +kernel) ?_ | simp (disch := (first | (simp only [List.length_set, hl]; omega) | omega | rfl)) only [walkA, walkB, bne_self_eq_false, beq_self_eq_true, Option.map_some, Option.map_none, reduceIte, decide_true, decide_false, Int.reduceLT, Int.reduceLE, Int.reduceMul, Int.reduceAdd, Int.reduceSub, List.append_eq, List.cons_append, List.nil_append, h0, h1, xa, xb, la, lb, cva, cvb, bin_str, bin_boolE, bin_time, bin_sattr, faA0, faA1, faA2, faA3, faA4, faA5, faA6, faA7, faA8, faA9, faA10, faA11, faA12, faA13, faA14, faA15, faA16, faA17, faA18, faA19, faA20, faA21, e0, e1, e2, e3])
    simp (disch := (first | (simp only [List.length_set, hl]; omega) | omega | rfl)) only [aRes_one Try.results14, sL]
    exact ⟨by simp [AR.eq, e0, e1, e2, e3], sm⟩
  cases e4 : (a.path.data.toList == b.path.data.toList)
  · skip
    repeat (first | (with_reducible refine Wp.st ?_; simp only [wS]) | with_reducible refine Wp.drawS (by decide +kernel) ?_ | simp (disch := (first | (simp only [List.length_set, hl]; omega) | omega | rfl)) only [walkA, walkB, bne_self_eq_false, beq_self_eq_true, Option.map_some, Option.map_none, reduceIte, decide_true, decide_false, Int.reduceLT, Int.reduceLE, Int.reduceMul, Int.reduceAdd, Int.reduceSub, List.append_eq, List.cons_append, List.nil_append, h0, h1, xa, xb, la, lb, cva, cvb, bin_str, bin_boolE, bin_time, bin_sattr, faA0, faA1, faA2, faA3, faA4, faA5, faA6, faA7, faA8, faA9, faA10, faA11, faA12, faA13, faA14, faA15, faA16, faA17, faA18, faA19, faA20, faA21, e0, e1, e2, e3, e4])
    simp (disch := (first | (simp only [List.length_set, hl]; omega) | omega | rfl)) only [aRes_one Try.results14, sL]
    exact ⟨by simp [AR.eq, e0, e1, e2, e3, e4], sm⟩
  cases e5 : a.set.eq b.set
  · skip
    repeat (first | (with_reducible refine Wp.st ?_; simp only [wS]) | with_reducible refine Wp.drawS (by decide +kernel) ?_ | simp (disch := (first | (simp only [List.length_set, hl]; omega) | omega | rfl)) only [walkA, walkB, bne_self_eq_false, beq_self_eq_true, Option.map_some, Option.map_none, reduceIte, decide_true, decide_false, Int.reduceLT, Int.reduceLE, Int.reduceMul, Int.reduceAdd, Int.reduceSub, List.append_eq, List.cons_append, List.nil_append, h0, h1, xa, xb, la, lb, cva, cvb, bin_str, bin_boolE, bin_time, bin_sattr, faA0, faA1, faA2, faA3, faA4, faA5, faA6, faA7, faA8, faA9, faA10, faA11, faA12, faA13, faA14, faA15, faA16, faA17, faA18, faA19, faA20, faA21, e0, e1, e2, e3, e4, e5])
    simp (disch := (first | (simp only [List.length_set, hl]; omega) | omega | rfl)) only [aRes_one Try.results14, sL]
    exact ⟨by simp [AR.eq, e0, e1, e2, e3, e4, e5], sm⟩
  cases e6 : (a.guard == b.guard)
  · skip
    repeat (first | (with_reducible refine Wp.st ?_; simp only [wS]) | with_reducible refine Wp.drawS (by decide +kernel) ?_ | simp (disch := (first | (simp only [List.length_set, hl]; omega) | omega | rfl)) only [walkA, walkB, bne_self_eq_false, beq_self_eq_true, Option.map_some, Option.map_none, reduceIte, decide_true, decide_false, Int.reduceLT, Int.reduceLE, Int.reduceMul, Int.reduceAdd, Int.reduceSub, List.append_eq, List.cons_append, List.nil_append, h0, h1, xa, xb, la, lb, cva, cvb, bin_str, bin_boolE, bin_time, bin_sattr, faA0, faA1, faA2, faA3, faA4, faA5, faA6, faA7, faA8, faA9, faA10, faA11, faA12, faA13, faA14, faA15, faA16, faA17, faA18, faA19, faA20, faA21, e0, e1, e2, e3, e4, e5, e6])
    simp (disch := (first | (simp only [List.length_set, hl]; omega) | omega | rfl)) only [aRes_one Try.results14, sL]
    exact ⟨by simp [AR.eq, e0, e1, e2, e3, e4, e5, e6], sm⟩
  cases e7 : eqT a.g1 a.g2 b.g1 b.g2
  · skip
    repeat (first | (with_reducible refine Wp.st ?_; simp only [wS]) | with_reducible refine Wp.drawS (by decide +kernel) ?_ | simp (disch := (first | (simp only [List.length_set, hl]; omega) | omega | rfl)) only [walkA, walkB, bne_self_eq_false, beq_self_eq_true, Option.map_some, Option.map_none, reduceIte, decide_true, decide_false, Int.reduceLT, Int.reduceLE, Int.reduceMul, Int.reduceAdd, Int.reduceSub, List.append_eq, List.cons_append, List.nil_append, h0, h1, xa, xb, la, lb, cva, cvb, bin_str, bin_boolE, bin_time, bin_sattr, faA0, faA1, faA2, faA3, faA4, faA5, faA6, faA7, faA8, faA9, faA10, faA11, faA12, faA13, faA14, faA15, faA16, faA17, faA18, faA19, faA20, faA21, e0, e1, e2, e3, e4, e5, e6, e7])
    simp (disch := (first | (simp only [List.length_set, hl]; omega) | omega | rfl)) only [aRes_one Try.results14, sL]
    exact ⟨by simp [AR.eq, e0, e1, e2, e3, e4, e5, e6, e7], sm⟩
  cases e8 : (a.access == b.access)
  · skip
    repeat (first | (with_reducible refine Wp.st ?_; simp only [wS]) | with_reducible refine Wp.drawS (by decide +kernel) ?_ | simp (disch := (first | (simp only [List.length_set, hl]; omega) | omega | rfl)) only [walkA, walkB, bne_self_eq_false, beq_self_eq_true, Option.map_some, Option.map_none, reduceIte, decide_true, decide_false, Int.reduceLT, Int.reduceLE, Int.reduceMul, Int.reduceAdd, Int.reduceSub, List.append_eq, List.cons_append, List.nil_append, h0, h1, xa, xb, la, lb, cva, cvb, bin_str, bin_boolE, bin_time, bin_sattr, faA0, faA1, faA2, faA3, faA4, faA5, faA6, faA7, faA8, faA9, faA10, faA11, faA12, faA13, faA14, faA15, faA16, faA17, faA18, faA19, faA20, faA21, e0, e1, e2, e3, e4, e5, e6, e7, e8])
    simp (disch := (first | (simp only [List.length_set, hl]; omega) | omega | rfl)) only [aRes_one Try.results14, sL]
    exact ⟨by simp [AR.eq, e0, e1, e2, e3, e4, e5, e6, e7, e8], sm⟩
  cases e9 : (a.offset == b.offset)
  · skip
    repeat (first | (with_reducible refine Wp.st ?_; simp only [wS]) | with_reducible refine Wp.drawS (by decide +kernel) ?_ | simp (disch := (first | (simp only [List.length_set, hl]; omega) | omega | rfl)) only [walkA, walkB, bne_self_eq_false, beq_self_eq_true, Option.map_some, Option.map_none, reduceIte, decide_true, decide_false, Int.reduceLT, Int.reduceLE, Int.reduceMul, Int.reduceAdd, Int.reduceSub, List.append_eq, List.cons_append, List.nil_append, h0, h1, xa, xb, la, lb, cva, cvb, bin_str, bin_boolE, bin_time, bin_sattr, faA0, faA1, faA2, faA3, faA4, faA5, faA6, faA7, faA8, faA9, faA10, faA11, faA12, faA13, faA14, faA15, faA16, faA17, faA18, faA19, faA20, faA21, e0, e1, e2, e3, e4, e5, e6, e7, e8, e9])
    simp (disch := (first | (simp only [List.length_set, hl]; omega) | omega | rfl)) only [aRes_one Try.results14, sL]
    exact ⟨by simp [AR.eq, e0, e1, e2, e3, e4, e5, e6, e7, e8, e9], sm⟩
  cases e10 : (a.count == b.count)
  · skip
    repeat (first | (with_reducible refine Wp.st ?_; simp only [wS]) | with_reducible refine Wp.drawS (by decide +kernel) ?_ | simp (disch := (first | (simp only [List.length_set, hl]; omega) | omega | rfl)) only [walkA, walkB, bne_self_eq_false, beq_self_eq_true, Option.map_some, Option.map_none, reduceIte, decide_true, decide_false, Int.reduceLT, Int.reduceLE, Int.reduceMul, Int.reduceAdd, Int.reduceSub, List.append_eq, List.cons_append, List.nil_append, h0, h1, xa, xb, la, lb, cva, cvb, bin_str, bin_boolE, bin_time, bin_sattr, faA0, faA1, faA2, faA3, faA4, faA5, faA6, faA7, faA8, faA9, faA10, faA11, faA12, faA13, faA14, faA15, faA16, faA17, faA18, faA19, faA20, faA21, e0, e1, e2, e3, e4, e5, e6, e7, e8, e9, e10])
    simp (disch := (first | (simp only [List.length_set, hl]; omega) | omega | rfl)) only [aRes_one Try.results14, sL]
    exact ⟨by simp [AR.eq, e0, e1, e2, e3, e4, e5, e6, e7, e8, e9, e10], sm⟩
  cases e11 : (a.stable == b.stable)
  · skip
    repeat (first | (with_reducible refine Wp.st ?_; simp only [wS]) | with_reducible refine Wp.drawS (by decide +kernel) ?_ | simp (disch := (first | (simp only [List.length_set, hl]; omega) | omega | rfl)) only [walkA, walkB, bne_self_eq_false, beq_self_eq_true, Option.map_some, Option.map_none, reduceIte, decide_true, decide_false, Int.reduceLT, Int.reduceLE, Int.reduceMul, Int.reduceAdd, Int.reduceSub, List.append_eq, List.cons_append, List.nil_append, h0, h1, xa, xb, la, lb, cva, cvb, bin_str, bin_boolE, bin_time, bin_sattr, faA0, faA1, faA2, faA3, faA4, faA5, faA6, faA7, faA8, faA9, faA10, faA11, faA12, faA13, faA14, faA15, faA16, faA17, faA18, faA19, faA20, faA21, e0, e1, e2, e3, e4, e5, e6, e7, e8, e9, e10, e11])
    simp (disch := (first | (simp only [List.length_set, hl]; omega) | omega | rfl)) only [aRes_one Try.results14, sL]
    exact ⟨by simp [AR.eq, e0, e1, e2, e3, e4, e5, e6, e7, e8, e9, e10, e11], sm⟩
  cases e12 : (a.mode == b.mode)
  · skip
    repeat (first | (with_reducible refine Wp.st ?_; simp only [wS]) | with_reducible refine Wp.drawS (by decide +kernel) ?_ | simp (disch := (first | (simp only [List.length_set, hl]; omega) | omega | rfl)) only [walkA, walkB, bne_self_eq_false, beq_self_eq_true, Option.map_some, Option.map_none, reduceIte, decide_true, decide_false, Int.reduceLT, Int.reduceLE, Int.reduceMul, Int.reduceAdd, Int.reduceSub, List.append_eq, List.cons_append, List.nil_append, h0, h1, xa, xb, la, lb, cva, cvb, bin_str, bin_boolE, bin_time, bin_sattr, faA0, faA1, faA2, faA3, faA4, faA5, faA6, faA7, faA8, faA9, faA10, faA11, faA12, faA13, faA14, faA15, faA16, faA17, faA18, faA19, faA20, faA21, e0, e1, e2, e3, e4, e5, e6, e7, e8, e9, e10, e11, e12])
    simp (disch := (first | (simp only [List.length_set, hl]; omega) | omega | rfl)) only [aRes_one Try.results14, sL]
    exact ⟨by simp [AR.eq, e0, e1, e2, e3, e4, e5, e6, e7, e8, e9, e10, e11, e12], sm⟩
  cases e13 : (a.type == b.type)
  · skip
    repeat (first | (with_reducible refine Wp.st ?_; simp only [wS]) | with_reducible refine Wp.drawS (by decide +kernel) ?_ | simp (disch := (first | (simp only [List.length_set, hl]; omega) | omega | rfl)) only [walkA, walkB, bne_self_eq_false, beq_self_eq_true, Option.map_some, Option.map_none, reduceIte, decide_true, decide_false, Int.reduceLT, Int.reduceLE, Int.reduceMul, Int.reduceAdd, Int.reduceSub, List.append_eq, List.cons_append, List.nil_append, h0, h1, xa, xb, la, lb, cva, cvb, bin_str, bin_boolE, bin_time, bin_sattr, faA0, faA1, faA2, faA3, faA4, faA5, faA6, faA7, faA8, faA9, faA10, faA11, faA12, faA13, faA14, faA15, faA16, faA17, faA18, faA19, faA20, faA21, e0, e1, e2, e3, e4, e5, e6, e7, e8, e9, e10, e11, e12, e13])
    simp (disch := (first | (simp only [List.length_set, hl]; omega) | omega | rfl)) only [aRes_one Try.results14, sL]
    exact ⟨by simp [AR.eq, e0, e1, e2, e3, e4, e5, e6, e7, e8, e9, e10, e11, e12, e13], sm⟩
  cases e14 : ((strS a.data).data.toList == (strS b.data).data.toList)
  · skip
    repeat (first | (with_reducible refine Wp.st ?_; simp only [wS]) | with_reducible refine Wp.drawS (by decide +kernel) ?_ | simp (disch := (first | (simp only [List.length_set, hl]; omega) | omega | rfl)) only [walkA, walkB, bne_self_eq_false, beq_self_eq_true, Option.map_some, Option.map_none, reduceIte, decide_true, decide_false, Int.reduceLT, Int.reduceLE, Int.reduceMul, Int.reduceAdd, Int.reduceSub, List.append_eq, List.cons_append, List.nil_append, h0, h1, xa, xb, la, lb, cva, cvb, bin_str, bin_boolE, bin_time, bin_sattr, faA0, faA1, faA2, faA3, faA4, faA5, faA6, faA7, faA8, faA9, faA10, faA11, faA12, faA13, faA14, faA15, faA16, faA17, faA18, faA19, faA20, faA21, e0, e1, e2, e3, e4, e5, e6, e7, e8, e9, e10, e11, e12, e13, e14])
    simp (disch := (first | (simp only [List.length_set, hl]; omega) | omega | rfl)) only [aRes_one Try.results14, sL]
    exact ⟨by simp [AR.eq, e0, e1, e2, e3, e4, e5, e6, e7, e8, e9, e10, e11, e12, e13, e14], sm⟩
  cases e15 : (a.verf == b.verf)
  · skip
    repeat (first | (with_reducible refine Wp.st ?_; simp only [wS]) | with_reducible refine Wp.drawS (by decide +kernel) ?_ | simp (disch := (first | (simp only [List.length_set, hl]; omega) | omega | rfl)) only [walkA, walkB, bne_self_eq_false, beq_self_eq_true, Option.map_some, Option.map_none, reduceIte, decide_true, decide_false, Int.reduceLT, Int.reduceLE, Int.reduceMul, Int.reduceAdd, Int.reduceSub, List.append_eq, List.cons_append, List.nil_append, h0, h1, xa, xb, la, lb, cva, cvb, bin_str, bin_boolE, bin_time, bin_sattr, faA0, faA1, faA2, faA3, faA4, faA5, faA6, faA7, faA8, faA9, faA10, faA11, faA12, faA13, faA14, faA15, faA16, faA17, faA18, faA19, faA20, faA21, e0, e1, e2, e3, e4, e5, e6, e7, e8, e9, e10, e11, e12, e13, e14, e15])
    simp (disch := (first | (simp only [List.length_set, hl]; omega) | omega | rfl)) only [aRes_one Try.results14, sL]
    exact ⟨by simp [AR.eq, e0, e1, e2, e3, e4, e5, e6, e7, e8, e9, e10, e11, e12, e13, e14, e15], sm⟩
  cases e16 : (a.cookie == b.cookie)
  · skip
    repeat (first | (with_reducible refine Wp.st ?_; simp only [wS]) | with_reducible refine Wp.drawS (by decide +kernel) ?_ | simp (disch := (first | (simp only [List.length_set, hl]; omega) | omega | rfl)) only [walkA, walkB, bne_self_eq_false, beq_self_eq_true, Option.map_some, Option.map_none, reduceIte, decide_true, decide_false, Int.reduceLT, Int.reduceLE, Int.reduceMul, Int.reduceAdd, Int.reduceSub, List.append_eq, List.cons_append, List.nil_append, h0, h1, xa, xb, la, lb, cva, cvb, bin_str, bin_boolE, bin_time, bin_sattr, faA0, faA1, faA2, faA3, faA4, faA5, faA6, faA7, faA8, faA9, faA10, faA11, faA12, faA13, faA14, faA15, faA16, faA17, faA18, faA19, faA20, faA21, e0, e1, e2, e3, e4, e5, e6, e7, e8, e9, e10, e11, e12, e13, e14, e15, e16])
    simp (disch := (first | (simp only [List.length_set, hl]; omega) | omega | rfl)) only [aRes_one Try.results14, sL]
    exact ⟨by simp [AR.eq, e0, e1, e2, e3, e4, e5, e6, e7, e8, e9, e10, e11, e12, e13, e14, e15, e16], sm⟩
  cases e17 : (a.cookieVerf == b.cookieVerf)
  · skip
    repeat (first | (with_reducible refine Wp.st ?_; simp only [wS]) | with_reducible refine Wp.drawS (by decide +kernel) ?_ | simp (disch := (first | (simp only [List.length_set, hl]; omega) | omega | rfl)) only [walkA, walkB, bne_self_eq_false, beq_self_eq_true, Option.map_some, Option.map_none, reduceIte, decide_true, decide_false, Int.reduceLT, Int.reduceLE, Int.reduceMul, Int.reduceAdd, Int.reduceSub, List.append_eq, List.cons_append, List.nil_append, h0, h1, xa, xb, la, lb, cva, cvb, bin_str, bin_boolE, bin_time, bin_sattr, faA0, faA1, faA2, faA3, faA4, faA5, faA6, faA7, faA8, faA9, faA10, faA11, faA12, faA13, faA14, faA15, faA16, faA17, faA18, faA19, faA20, faA21, e0, e1, e2, e3, e4, e5, e6, e7, e8, e9, e10, e11, e12, e13, e14, e15, e16, e17])
    simp (disch := (first | (simp only [List.length_set, hl]; omega) | omega | rfl)) only [aRes_one Try.results14, sL]
    exact ⟨by simp [AR.eq, e0, e1, e2, e3, e4, e5, e6, e7, e8, e9, e10, e11, e12, e13, e14, e15, e16, e17], sm⟩
  cases e18 : (a.dirCount == b.dirCount)
  · skip
    repeat (first | (with_reducible refine Wp.st ?_; simp only [wS]) | with_reducible refine Wp.drawS (by decide +kernel) ?_ | simp (disch := (first | (simp only [List.length_set, hl]; omega) | omega | rfl)) only [walkA, walkB, bne_self_eq_false, beq_self_eq_true, Option.map_some, Option.map_none, reduceIte, decide_true, decide_false, Int.reduceLT, Int.reduceLE, Int.reduceMul, Int.reduceAdd, Int.reduceSub, List.append_eq, List.cons_append, List.nil_append, h0, h1, xa, xb, la, lb, cva, cvb, bin_str, bin_boolE, bin_time, bin_sattr, faA0, faA1, faA2, faA3, faA4, faA5, faA6, faA7, faA8, faA9, faA10, faA11, faA12, faA13, faA14, faA15, faA16, faA17, faA18, faA19, faA20, faA21, e0, e1, e2, e3, e4, e5, e6, e7, e8, e9, e10, e11, e12, e13, e14, e15, e16, e17, e18])
    simp (disch := (first | (simp only [List.length_set, hl]; omega) | omega | rfl)) only [aRes_one Try.results14, sL]
    exact ⟨by simp [AR.eq, e0, e1, e2, e3, e4, e5, e6, e7, e8, e9, e10, e11, e12, e13, e14, e15, e16, e17, e18], sm⟩
  cases e19 : (a.maxCount == b.maxCount)
  · skip
    repeat (first | (with_reducible refine Wp.st ?_; simp only [wS]) | with_reducible refine Wp.drawS (by decide +kernel) ?_ | simp (disch := (first | (simp only [List.length_set, hl]; omega) | omega | rfl)) only [walkA, walkB, bne_self_eq_false, beq_self_eq_true, Option.map_some, Option.map_none, reduceIte, decide_true, decide_false, Int.reduceLT, Int.reduceLE, Int.reduceMul, Int.reduceAdd, Int.reduceSub, List.append_eq, List.cons_append, List.nil_append, h0, h1, xa, xb, la, lb, cva, cvb, bin_str, bin_boolE, bin_time, bin_sattr, faA0, faA1, faA2, faA3, faA4, faA5, faA6, faA7, faA8, faA9, faA10, faA11, faA12, faA13, faA14, faA15, faA16, faA17, faA18, faA19, faA20, faA21, e0, e1, e2, e3, e4, e5, e6, e7, e8, e9, e10, e11, e12, e13, e14, e15, e16, e17, e18, e19])
    simp (disch := (first | (simp only [List.length_set, hl]; omega) | omega | rfl)) only [aRes_one Try.results14, sL]
    exact ⟨by simp [AR.eq, e0, e1, e2, e3, e4, e5, e6, e7, e8, e9, e10, e11, e12, e13, e14, e15, e16, e17, e18, e19], sm⟩
  cases e20 : (a.spec1 == b.spec1)
  · skip
    repeat (first | (with_reducible refine Wp.st ?_; simp only [wS]) | with_reducible refine Wp.drawS (by decide +kernel) ?_ | simp (disch := (first | (simp only [List.length_set, hl]; omega) | omega | rfl)) only [walkA, walkB, bne_self_eq_false, beq_self_eq_true, Option.map_some, Option.map_none, reduceIte, decide_true, decide_false, Int.reduceLT, Int.reduceLE, Int.reduceMul, Int.reduceAdd, Int.reduceSub, List.append_eq, List.cons_append, List.nil_append, h0, h1, xa, xb, la, lb, cva, cvb, bin_str, bin_boolE, bin_time, bin_sattr, faA0, faA1, faA2, faA3, faA4, faA5, faA6, faA7, faA8, faA9, faA10, faA11, faA12, faA13, faA14, faA15, faA16, faA17, faA18, faA19, faA20, faA21, e0, e1, e2, e3, e4, e5, e6, e7, e8, e9, e10, e11, e12, e13, e14, e15, e16, e17, e18, e19, e20])
    simp (disch := (first | (simp only [List.length_set, hl]; omega) | omega | rfl)) only [aRes_one Try.results14, sL]
    exact ⟨by simp [AR.eq, e0, e1, e2, e3, e4, e5, e6, e7, e8, e9, e10, e11, e12, e13, e14, e15, e16, e17, e18, e19, e20], sm⟩
  cases e21 : (a.spec2 == b.spec2)
  · skip
    repeat (first | (with_reducible refine Wp.st ?_; simp only [wS]) | with_reducible refine Wp.drawS (by decide +kernel) ?_ | simp (disch := (first | (simp only [List.length_set, hl]; omega) | omega | rfl)) only [walkA, walkB, bne_self_eq_false, beq_self_eq_true, Option.map_some, Option.map_none, reduceIte, decide_true, decide_false, Int.reduceLT, Int.reduceLE, Int.reduceMul, Int.reduceAdd, Int.reduceSub, List.append_eq, List.cons_append, List.nil_append, h0, h1, xa, xb, la, lb, cva, cvb, bin_str, bin_boolE, bin_time, bin_sattr, faA0, faA1, faA2, faA3, faA4, faA5, faA6, faA7, faA8, faA9, faA10, faA11, faA12, faA13, faA14, faA15, faA16, faA17, faA18, faA19, faA20, faA21, e0, e1, e2, e3, e4, e5, e6, e7, e8, e9, e10, e11, e12, e13, e14, e15, e16, e17, e18, e19, e20, e21])
    simp (disch := (first | (simp only [List.length_set, hl]; omega) | omega | rfl)) only [aRes_one Try.results14, sL]
    exact ⟨by simp [AR.eq, e0, e1, e2, e3, e4, e5, e6, e7, e8, e9, e10, e11, e12, e13, e14, e15, e16, e17, e18, e19, e20, e21], sm⟩
  repeat (first | (with_reducible refine Wp.st ?_; simp only [wS]) | with_reducible refine Wp.drawS (by decide +kernel) ?_ | simp (disch := (first | (simp only [List.length_set, hl]; omega) | omega | rfl)) only [walkA, walkB, bne_self_eq_false, beq_self_eq_true, Option.map_some, Option.map_none, reduceIte, decide_true, decide_false, Int.reduceLT, Int.reduceLE, Int.reduceMul, Int.reduceAdd, Int.reduceSub, List.append_eq, List.cons_append, List.nil_append, h0, h1, xa, xb, la, lb, cva, cvb, bin_str, bin_boolE, bin_time, bin_sattr, faA0, faA1, faA2, faA3, faA4, faA5, faA6, faA7, faA8, faA9, faA10, faA11, faA12, faA13, faA14, faA15, faA16, faA17, faA18, faA19, faA20, faA21, e0, e1, e2, e3, e4, e5, e6, e7, e8, e9, e10, e11, e12, e13, e14, e15, e16, e17, e18, e19, e20, e21])
  simp (disch := (first | (simp only [List.length_set, hl]; omega) | omega | rfl)) only [aRes_one Try.results14, sL]
  exact ⟨by simp [AR.eq, e0, e1, e2, e3, e4, e5, e6, e7, e8, e9, e10, e11, e12, e13, e14, e15, e16, e17, e18, e19, e20, e21], sm⟩
end Go.Proofs.Ytanknjpcgceccaa

namespace Go.Proofs.Ytanknjpcgceccaa
open Go Go.AM
set_option linter.unusedSimpArgs false
set_option maxRecDepth 100000
def kd : Value → Nat
  | .bool _ => 0
  | .int .i64 _ => 1
  | .int .u32 x => if 0 ≤ x ∧ x < 4294967296 then 2 else 9
  | .int .u64 _ => 3
  | .string _ => 4
  | .slice _ _ _ => 5
  | _ => 9
theorem kd0 {v : Value} (h : kd v = 0) : ∃ b, v = .bool b := by
  unfold kd at h; split at h <;> first | exact ⟨_, rfl⟩ | (split at h <;> omega) | omega
theorem kd1 {v : Value} (h : kd v = 1) : ∃ b, v = .int .i64 b := by
  unfold kd at h; split at h <;> first | exact ⟨_, rfl⟩ | (split at h <;> omega) | omega
theorem kd2 {v : Value} (h : kd v = 2) : ∃ b, v = .int .u32 b ∧ u32r b := by
  unfold kd at h; split at h <;> first | (split at h <;> first | exact ⟨_, rfl, by assumption⟩ | omega) | omega
theorem kd3 {v : Value} (h : kd v = 3) : ∃ b, v = .int .u64 b := by
  unfold kd at h; split at h <;> first | exact ⟨_, rfl⟩ | (split at h <;> omega) | omega
theorem kd4 {v : Value} (h : kd v = 4) : ∃ b, v = .string b := by
  unfold kd at h; split at h <;> first | exact ⟨_, rfl⟩ | (split at h <;> omega) | omega
def WT (K : List Nat) (cs : List Value) : Prop := cs.map kd = K
section
variable {K : List Nat} {cs : List Value} {o t : Nat} {v : Value} {bs : List Int} {x : RS}
theorem set_same {α : Type} {l : List α} {o : Nat} {x : α} (h : l[o]? = some x) : l.set o x = l := by
  obtain ⟨hl, he⟩ := List.getElem?_eq_some_iff.1 h
  rw [← he]; exact List.set_getElem_self hl
theorem WT.set (h : WT K cs) (hk : K[o]? = some (kd v)) : WT K (cs.set o v) := by
  unfold WT at *
  rw [List.map_set, h, set_same hk]
theorem pU32_wt (hby : ∀ b ∈ bs, 0 ≤ b ∧ b < 256) (hk : K[o]? = some 2) (h : WT K x.cs) : WT K (pU32 bs o x).cs := by
  refine WT.set h ?_
  have := rNum_le bs hby x.s
  rw [hk]
  simp only [kd]
  rw [if_pos this]
theorem pU64_wt (hk : K[o]? = some 3) (h : WT K x.cs) : WT K (pU64 bs o x).cs := WT.set h hk
theorem pBool_wt (hk : K[o]? = some 0) (h : WT K x.cs) : WT K (pBool bs o x).cs := WT.set h hk
theorem pNum_wt {a b : Int} (hk : K[o]? = some 1) (h : WT K x.cs) : WT K (pNum bs o a b x).cs := WT.set h hk
theorem pText_wt {m : Int} (hk : K[o]? = some 4) (h : WT K x.cs) : WT K (pText bs o m x).cs := WT.set h hk
theorem pTime_wt (hby : ∀ b ∈ bs, 0 ≤ b ∧ b < 256) (hk : K[o]? = some 2) (hk2 : K[o + 1]? = some 2) (h : WT K x.cs) : WT K (pTime bs o x).cs := pU32_wt hby hk2 (pU32_wt hby hk h)
theorem pNoTime_wt (hk : K[o]? = some 2) (hk2 : K[o + 1]? = some 2) (h : WT K x.cs) : WT K (pNoTime o x).cs := WT.set (WT.set h hk) hk2
theorem pHow_wt (hby : ∀ b ∈ bs, 0 ≤ b ∧ b < 256) (hk : K[o]? = some 1) (hk1 : K[t]? = some 2) (hk2 : K[t + 1]? = some 2) (h : WT K x.cs) : WT K (pHow bs o t x).cs := by
  unfold pHow; split
  · exact pTime_wt hby hk1 hk2 (pNum_wt hk h)
  · exact pNoTime_wt hk1 hk2 (pNum_wt hk h)
theorem pIf_wt {f : RS → RS} (hf : ∀ y : RS, WT K y.cs → WT K (f y).cs) (hk : K[o]? = some 0) (h : WT K x.cs) : WT K (pIf bs o f x).cs := by
  unfold pIf; split
  · exact hf _ (pBool_wt hk h)
  · exact pBool_wt hk h
end
def kA : List Nat := argsZ.map kd
section
variable {bs : List Int} {x : RS} (hby : ∀ b ∈ bs, 0 ≤ b ∧ b < 256)
include hby
theorem pSet_wt (h : WT kA x.cs) : WT kA (pSet bs 5 x).cs :=
  pHow_wt hby rfl rfl rfl (pHow_wt hby rfl rfl rfl (pIf_wt (fun _ => pU64_wt rfl) rfl (pIf_wt (fun _ => pU32_wt hby rfl) rfl (pIf_wt (fun _ => pU32_wt hby rfl) rfl (pIf_wt (fun _ => pNum_wt rfl) rfl h)))))
theorem pNamed_wt {p : Int} (h : WT kA x.cs) : WT kA (pNamed bs p x).cs := by
  unfold pNamed
  split
  · split
    · exact pU64_wt rfl (pNum_wt rfl h)
    · exact pSet_wt hby (pNum_wt rfl h)
  split
  · exact pSet_wt hby h
  split
  · exact pText_wt rfl (pSet_wt hby h)
  split
  · split
    · exact pU32_wt hby rfl (pU32_wt hby rfl (pSet_wt hby (pNum_wt rfl h)))
    · split
      · exact pSet_wt hby (pNum_wt rfl h)
      · exact pNum_wt rfl h
  split
  · exact pText_wt rfl (pText_wt rfl h)
  · exact h
theorem pArgs_wt {p : Int} (h : WT kA x.cs) : WT kA (pArgs bs p x).cs := by
  unfold pArgs
  split
  · exact h
  split
  · exact pText_wt rfl h
  split
  · exact pIf_wt (fun _ => pTime_wt hby rfl rfl) rfl (pSet_wt hby (pText_wt rfl h))
  split
  · exact pU32_wt hby rfl (pText_wt rfl h)
  split
  · exact pU32_wt hby rfl (pU64_wt rfl (pText_wt rfl h))
  split
  · exact pNum_wt (a := 0) (b := 2) rfl (pU32_wt hby rfl (pU64_wt rfl (pText_wt rfl h)))
  split
  · exact pText_wt rfl (pText_wt rfl (pText_wt rfl h))
  split
  · exact pU32_wt hby rfl (pU64_wt rfl (pU64_wt rfl (pText_wt rfl h)))
  split
  · exact pU32_wt hby rfl (pU32_wt hby rfl (pU64_wt rfl (pU64_wt rfl (pText_wt rfl h))))
  split
  · exact pNamed_wt hby (pText_wt rfl (pText_wt rfl h))
  · exact pText_wt rfl h
theorem rdArgs_wt (p : Int) : WT kA (rdArgs bs p).1 := by
  have hz : WT kA argsZ := rfl
  unfold rdArgs
  split
  · dsimp only
    split
    · exact pArgs_wt hby hz
    · exact hz
  · exact hz
end
set_option maxHeartbeats 2000000 in
theorem WT.rec {cs : List Value} (h : WT kA cs) (ds : List Value) : ∃ a : AR, a.data = ds ∧ ∀ dv, cs.set 28 dv = ({ a with dv := dv } : AR).cells ∧ ((∃ x n c, dv = .slice x n c) → (∃ s, ds = strB s) → ({ a with dv := dv } : AR).WF) := by
  have hl : cs.length = 36 := by have := congrArg List.length h; rw [List.length_map] at this; exact this.trans rfl
  obtain ⟨c0, t0, rfl, hl0⟩ := len_succ hl
  obtain ⟨c1, t1, rfl, hl1⟩ := len_succ hl0
  obtain ⟨c2, t2, rfl, hl2⟩ := len_succ hl1
  obtain ⟨c3, t3, rfl, hl3⟩ := len_succ hl2
  obtain ⟨c4, t4, rfl, hl4⟩ := len_succ hl3
  obtain ⟨c5, t5, rfl, hl5⟩ := len_succ hl4
  obtain ⟨c6, t6, rfl, hl6⟩ := len_succ hl5
  obtain ⟨c7, t7, rfl, hl7⟩ := len_succ hl6
  obtain ⟨c8, t8, rfl, hl8⟩ := len_succ hl7
  obtain ⟨c9, t9, rfl, hl9⟩ := len_succ hl8
  obtain ⟨c10, t10, rfl, hl10⟩ := len_succ hl9
  obtain ⟨c11, t11, rfl, hl11⟩ := len_succ hl10
  obtain ⟨c12, t12, rfl, hl12⟩ := len_succ hl11
  obtain ⟨c13, t13, rfl, hl13⟩ := len_succ hl12
  obtain ⟨c14, t14, rfl, hl14⟩ := len_succ hl13
  obtain ⟨c15, t15, rfl, hl15⟩ := len_succ hl14
  obtain ⟨c16, t16, rfl, hl16⟩ := len_succ hl15
  obtain ⟨c17, t17, rfl, hl17⟩ := len_succ hl16
  obtain ⟨c18, t18, rfl, hl18⟩ := len_succ hl17
  obtain ⟨c19, t19, rfl, hl19⟩ := len_succ hl18
  obtain ⟨c20, t20, rfl, hl20⟩ := len_succ hl19
  obtain ⟨c21, t21, rfl, hl21⟩ := len_succ hl20
  obtain ⟨c22, t22, rfl, hl22⟩ := len_succ hl21
  obtain ⟨c23, t23, rfl, hl23⟩ := len_succ hl22
  obtain ⟨c24, t24, rfl, hl24⟩ := len_succ hl23
  obtain ⟨c25, t25, rfl, hl25⟩ := len_succ hl24
  obtain ⟨c26, t26, rfl, hl26⟩ := len_succ hl25
  obtain ⟨c27, t27, rfl, hl27⟩ := len_succ hl26
  obtain ⟨c28, t28, rfl, hl28⟩ := len_succ hl27
  obtain ⟨c29, t29, rfl, hl29⟩ := len_succ hl28
  obtain ⟨c30, t30, rfl, hl30⟩ := len_succ hl29
  obtain ⟨c31, t31, rfl, hl31⟩ := len_succ hl30
  obtain ⟨c32, t32, rfl, hl32⟩ := len_succ hl31
  obtain ⟨c33, t33, rfl, hl33⟩ := len_succ hl32
  obtain ⟨c34, t34, rfl, hl34⟩ := len_succ hl33
  obtain ⟨c35, t35, rfl, hl35⟩ := len_succ hl34
  obtain rfl := List.eq_nil_of_length_eq_zero hl35
  · skip
    have h' : [kd c0, kd c1, kd c2, kd c3, kd c4, kd c5, kd c6, kd c7, kd c8, kd c9, kd c10, kd c11, kd c12, kd c13, kd c14, kd c15, kd c16, kd c17, kd c18, kd c19, kd c20, kd c21, kd c22, kd c23, kd c24, kd c25, kd c26, kd c27, kd c28, kd c29, kd c30, kd c31, kd c32, kd c33, kd c34, kd c35] = [4, 4, 4, 4, 4, 0, 0, 0, 0, 1, 2, 2, 3, 1, 1, 2, 2, 2, 2, 0, 2, 2, 2, 3, 2, 1, 1, 1, 5, 3, 3, 3, 2, 2, 2, 2] := h
    simp only [List.cons.injEq, and_true] at h'
    obtain ⟨k0, k1, k2, k3, k4, k5, k6, k7, k8, k9, k10, k11, k12, k13, k14, k15, k16, k17, k18, k19, k20, k21, k22, k23, k24, k25, k26, k27, k28, k29, k30, k31, k32, k33, k34, k35⟩ := h'
    obtain ⟨x0, rfl⟩ := kd4 k0
    obtain ⟨x1, rfl⟩ := kd4 k1
    obtain ⟨x2, rfl⟩ := kd4 k2
    obtain ⟨x3, rfl⟩ := kd4 k3
    obtain ⟨x4, rfl⟩ := kd4 k4
    obtain ⟨x5, rfl⟩ := kd0 k5
    obtain ⟨x6, rfl⟩ := kd0 k6
    obtain ⟨x7, rfl⟩ := kd0 k7
    obtain ⟨x8, rfl⟩ := kd0 k8
    obtain ⟨x9, rfl⟩ := kd1 k9
    obtain ⟨x10, rfl, w10⟩ := kd2 k10
    obtain ⟨x11, rfl, w11⟩ := kd2 k11
    obtain ⟨x12, rfl⟩ := kd3 k12
    obtain ⟨x13, rfl⟩ := kd1 k13
    obtain ⟨x14, rfl⟩ := kd1 k14
    obtain ⟨x15, rfl, w15⟩ := kd2 k15
    obtain ⟨x16, rfl, w16⟩ := kd2 k16
    obtain ⟨x17, rfl, w17⟩ := kd2 k17
    obtain ⟨x18, rfl, w18⟩ := kd2 k18
    obtain ⟨x19, rfl⟩ := kd0 k19
    obtain ⟨x20, rfl, w20⟩ := kd2 k20
    obtain ⟨x21, rfl, w21⟩ := kd2 k21
    obtain ⟨x22, rfl, w22⟩ := kd2 k22
    obtain ⟨x23, rfl⟩ := kd3 k23
    obtain ⟨x24, rfl, w24⟩ := kd2 k24
    obtain ⟨x25, rfl⟩ := kd1 k25
    obtain ⟨x26, rfl⟩ := kd1 k26
    obtain ⟨x27, rfl⟩ := kd1 k27
    obtain ⟨x29, rfl⟩ := kd3 k29
    obtain ⟨x30, rfl⟩ := kd3 k30
    obtain ⟨x31, rfl⟩ := kd3 k31
    obtain ⟨x32, rfl, w32⟩ := kd2 k32
    obtain ⟨x33, rfl, w33⟩ := kd2 k33
    obtain ⟨x34, rfl, w34⟩ := kd2 k34
    obtain ⟨x35, rfl, w35⟩ := kd2 k35
    exact ⟨⟨x0, x1, x2, x3, x4, ⟨x5, x6, x7, x8, x9, x10, x11, x12, x13, x14, x15, x16, x17, x18⟩, x19, x20, x21, x22, x23, x24, x25, x26, x27, .nilFunc, ds, x29, x30, x31, x32, x33, x34, x35⟩, rfl, fun dv => ⟨rfl, fun hs hd => ⟨⟨w10, w11, w15, w16, w17, w18⟩, w20, w21, w22, w24, w32, w33, w34, w35, hs, hd⟩⟩⟩
end Go.Proofs.Ytanknjpcgceccaa

namespace Go.Proofs.Ytanknjpcgceccaa
open Go Go.AM
set_option linter.unusedSimpArgs false
set_option maxRecDepth 100000
attribute [local irreducible] WOps WV WH WSt WNil WPick WGd
abbrev TO : TypeId := 93
abbrev TRW : TypeId := 91
theorem faO0 {k off : Nat} : aFieldAddr Try.prog 93 (.pointer (some ⟨k, off, none⟩)) 0 = some (.pointer (some ⟨k, off, none⟩)) := by kernel_rfl
theorem faO1 {k off : Nat} : aFieldAddr Try.prog 93 (.pointer (some ⟨k, off, none⟩)) 1 = some (.pointer (some ⟨k, off + 1, none⟩)) := by kernel_rfl
def OW (Z : Nat → Prop) (H0 h : Heap) (ko kw : Nat) (x : WS) (L : List Blk) : Prop := ∃ wv, WB Z H0 h kw TRW wv x.bs ((ko, [pt kw 0, .bool x.bad], TO) :: L)
section
variable {Z : Nat → Prop} {H0 h h' : Heap} {ko kw : Nat} {x : WS} {L L' : List Blk} {kt : Nat} {cs : List Value} {T : TypeId} {b : Blk}
theorem OW.perm (c : OW Z H0 h ko kw x L) (p : L.Perm L') : OW Z H0 h ko kw x L' := by
  obtain ⟨wv, c⟩ := c
  exact ⟨wv, WB.perm c (p.cons _)⟩
theorem OW.drop (c : OW Z H0 h ko kw x (b :: L)) : OW Z H0 h ko kw x L := by
  obtain ⟨wv, c⟩ := c
  exact ⟨wv, (WB.perm c (.swap _ _ _)).drop⟩
theorem OW.alloc (c : OW Z H0 h ko kw x L) (cs : List Value) (T : TypeId) : OW Z H0 (h.push (.cells cs T false)) ko kw x ((h.next, cs, T) :: L) := by
  obtain ⟨wv, c⟩ := c
  exact ⟨wv, (WB.alloc c cs T).perm (.swap _ _ _)⟩
theorem OW.lr (c : OW Z H0 h ko kw x L) : aLoad Try.prog h 89 (pt ko 0) = some (pt kw 0) := by
  obtain ⟨wv, c⟩ := c
  rw [c.ld Try.underlying89 (by simp) (by simp)]; rfl
theorem OW.lb (c : OW Z H0 h ko kw x L) : aLoad Try.prog h 4 (pt ko 1) = some (.bool x.bad) := by
  obtain ⟨wv, c⟩ := c
  rw [c.ld Try.underlying4 (by simp) (by simp)]; rfl
theorem OW.ld {t : TypeId} {d : TypeDesc} (c : OW Z H0 h ko kw x ((kt, cs, T) :: L)) (hu : Try.prog.underlying t = some d) (h1 : ∀ fs, d ≠ .struct fs) (h2 : ∀ n e, d ≠ .array n e) (o : Nat) : aLoad Try.prog h t (pt kt o) = cs[o]? := by
  obtain ⟨wv, c⟩ := c
  exact (WB.perm c (.swap _ _ _)).ld hu h1 h2 o
theorem OW.ldS {t : TypeId} {i : TypeInfo} {fs : Array Field} (c : OW Z H0 h ko kw x ((kt, cs, T) :: L)) (hu : Try.prog.underlying t = some (.struct fs)) (hi : Try.prog.info? t = some i) (o : Nat) (ho : o + i.size ≤ cs.length) : aLoad Try.prog h t (pt kt o) = some (.agg ((cs.drop o).take i.size).toArray) := by
  obtain ⟨wv, c⟩ := c
  have hg := c.st.get (kt, cs, T) (by simp)
  rw [aLoad_struct hu hi, rdN, hg]
  have : Nat.ble (o + i.size) cs.length = true := ble_iff.2 ho
  simp [this]
theorem OW.sb (c : OW Z H0 h ko kw x L) (b : Bool) : ∃ h2, aStore Try.prog h 4 (pt ko 1) (.bool b) = some h2 ∧ OW Z H0 h2 ko kw ⟨x.bs, b⟩ L := by
  obtain ⟨wv, c⟩ := c
  obtain ⟨h2, p, q⟩ := c.put (t := 4) iB rfl 1 (by simp) (v := .bool b) rfl rfl
  exact ⟨h2, p, wv, q⟩
theorem OW.done (c : OW Z H0 h ko kw x L) {bs' : List Value} {f : FuncId} {args : List Value} (hc : ∀ wv, WR h kw TRW wv x.bs → x.bs.all Value.oneCell' = true → (∀ j, own wv kw j → ¬ Z j ∧ ∀ y ∈ L, y.1 ≠ j) → Cl Try.prog f args h (WQ h kw TRW wv bs')) (h1 : x.bs.all Value.oneCell' = true → bs'.all Value.oneCell' = true) :
    Cl Try.prog f args h fun v h' => v = .tuple #[] ∧ OW Z H0 h' ko kw ⟨bs', x.bad⟩ L := by
  obtain ⟨wv, c⟩ := c
  refine (hc wv c.wr c.one (fun j hj => ⟨?_, ?_⟩)).mono fun v h' q => ?_
  · rcases hj with rfl | hj
    · exact c.st.off _ (List.mem_cons_self)
    · exact (c.off j hj).2.1
  · intro y hy
    rcases hj with rfl | hj
    · exact c.st.ne _ (List.mem_cons_of_mem _ hy)
    · exact (c.off j hj).2.2 y (List.mem_cons_of_mem _ hy)
  · obtain ⟨hr, v', hw, hs, hf⟩ := q
    exact ⟨hr, v', WB.write c hw hs hf (h1 c.one)⟩
theorem oU32 {n : Int} (c : OW Z H0 h ko kw x L) (hn : u32r n) (hsz : small9 x) : Cl Try.prog 42 [pt kw 0, .int .u32 n] h fun v h' => v = .tuple #[] ∧ OW Z H0 h' ko kw (wU32 n x) L :=
  c.done (fun wv hw _ _ => refU32_am n kw wv _ _ hn hw (Nat.le_trans hsz (by decide))) (fun h => all_append' h (beTo_all _ _))
theorem oU64 {n : Int} (c : OW Z H0 h ko kw x L) (hsz : small9 x) : Cl Try.prog 43 [pt kw 0, .int .u64 n] h fun v h' => v = .tuple #[] ∧ OW Z H0 h' ko kw (wU64 n x) L :=
  c.done (fun wv hw _ _ => refU64_am n kw wv _ _ hw (Nat.le_trans hsz (by decide))) (fun h => all_append' h (beTo_all _ _))
theorem oBool {b : Bool} (c : OW Z H0 h ko kw x L) (hsz : small9 x) : Cl Try.prog 40 [pt kw 0, .bool b] h fun v h' => v = .tuple #[] ∧ OW Z H0 h' ko kw (wBool b x) L :=
  c.done (fun wv hw _ _ => by have := refBool_am b kw wv _ _ hw (Nat.le_trans hsz (by decide)); simpa [wTr] using this) (fun h => all_append' h (beTo_all _ _))
theorem oBytes {bv : Value} {xs : List Value} (c : OW Z H0 h ko kw x L) (r : Row h bv xs) (hx1 : xs.all Value.oneCell' = true) (hd : ∀ a n d, bv = .slice (some a) n d → n ≠ 0 → Z a.block ∨ ∃ y ∈ L, y.1 = a.block) (hxl : xs.length ≤ 40000) (hsz : small9 x) :
    Cl Try.prog 66 [pt kw 0, bv] h fun v h' => v = .tuple #[] ∧ OW Z H0 h' ko kw ⟨x.bs ++ (beTo xs.length 4 ++ (xs ++ padB xs.length)), x.bad⟩ L :=
  c.done (fun wv hw _ ho => refBytes_am bv xs kw wv _ _ r hx1 (fun a n d e hn hh => (hd a n d e hn).elim (fun z => (ho _ hh).1 z) (fun ⟨y, hy, e2⟩ => (ho _ hh).2 y hy e2)) hw (by have : x.bs.length ≤ 900000 := hsz; omega)) (fun h => all_append' h (all_append' (beTo_all _ _) (all_append' hx1 (padB_all _))))
theorem badIn_u32 (v : Int) : badIn 0 4294967295 v = (decide (v < 0) || decide (v ≥ 4294967296)) := by
  unfold badIn; rw [Bool.eq_iff_iff]; simp <;> omega
theorem badIn_two (a b v : Int) : badIn a b v = (decide (v < a) || decide (v > b)) := by
  unfold badIn; rw [Bool.eq_iff_iff]; simp <;> omega
set_option maxHeartbeats 1000000 in
theorem oNum {v0 : Int} (c : OW Z H0 h ko kw x L) (hsz : small9 x) : Cl Try.prog 67 [pt ko 0, .int .i64 v0] h fun v h' => v = .tuple #[] ∧ OW Z H0 h' ko kw (wNum 0 4294967295 v0 x) L := by
  have hcv := fun x hx => conv_int (h := hx) (k' := .i64) (n := x) Try.underlying3 Try.underlying23
  have e0 : wNum 0 4294967295 v0 x = wU32 (IntKind.u32.wrap v0) ⟨x.bs, x.bad || badIn 0 4294967295 v0⟩ := rfl
  rw [e0, badIn_u32]
  refine Cl.enter Try.func67 rfl _ Try.ntmps67 (by simp) ?_
  intro env hl ha
  have h0 : sl env 0 = pt ko 0 := ha 0 (by simp)
  have h1 : sl env 1 = .int .i64 v0 := ha 1 (by simp)
  clear ha
  have h1' := h1
  clear h1
  have lb := c.lb
  have w1 := wrap32_le v0
  obtain ⟨h2, p1, c2⟩ := c.sb (x.bad || (decide (v0 < 0) || decide (v0 ≥ 4294967296)))
  have lr := c2.lr
  cases hb : x.bad with
  | true =>
    rw [hb] at lb p1 c2
    rw [Bool.true_or] at p1 c2 ⊢
    repeat (first | (with_reducible refine Wp.st ?_; simp only [wS]) | with_reducible refine Wp.drawS (by decide +kernel) ?_ | simp (disch := (first | (simp only [List.length_set, hl]; omega) | omega | rfl)) only [walkA, walkB, bne_self_eq_false, beq_self_eq_true, Option.map_some, Option.map_none, reduceIte, decide_true, decide_false, Int.reduceLT, Int.reduceLE, Int.reduceMul, Int.reduceAdd, Int.reduceSub, h0, h1', lb, p1, faO0, faO1, lr, hcv])
    refine (oU32 c2 w1 hsz).mono ?_
    intro v h3 q
    rw [q.1]
    replace c := q.2
    clear q
    repeat (first | (with_reducible refine Wp.st ?_; simp only [wS]) | with_reducible refine Wp.drawS (by decide +kernel) ?_ | simp (disch := (first | (simp only [List.length_set, hl]; omega) | omega | rfl)) only [walkA, walkB, bne_self_eq_false, beq_self_eq_true, Option.map_some, Option.map_none, reduceIte, decide_true, decide_false, Int.reduceLT, Int.reduceLE, Int.reduceMul, Int.reduceAdd, Int.reduceSub, h0])
    simp only [aRes_none Try.results67]
    exact ⟨trivial, c⟩
  | false =>
    rw [hb] at lb p1 c2
    rw [Bool.false_or] at p1 c2 ⊢
    cases d1 : decide (v0 < 0) with
    | true =>
      rw [d1] at p1 c2
      rw [Bool.true_or] at p1 c2 ⊢
      repeat (first | (with_reducible refine Wp.st ?_; simp only [wS]) | with_reducible refine Wp.drawS (by decide +kernel) ?_ | simp (disch := (first | (simp only [List.length_set, hl]; omega) | omega | rfl)) only [walkA, walkB, bne_self_eq_false, beq_self_eq_true, Option.map_some, Option.map_none, reduceIte, decide_true, decide_false, Int.reduceLT, Int.reduceLE, Int.reduceMul, Int.reduceAdd, Int.reduceSub, h0, h1', lb, p1, faO0, faO1, lr, hcv, d1])
      refine (oU32 c2 w1 hsz).mono ?_
      intro v h3 q
      rw [q.1]
      replace c := q.2
      clear q
      repeat (first | (with_reducible refine Wp.st ?_; simp only [wS]) | with_reducible refine Wp.drawS (by decide +kernel) ?_ | simp (disch := (first | (simp only [List.length_set, hl]; omega) | omega | rfl)) only [walkA, walkB, bne_self_eq_false, beq_self_eq_true, Option.map_some, Option.map_none, reduceIte, decide_true, decide_false, Int.reduceLT, Int.reduceLE, Int.reduceMul, Int.reduceAdd, Int.reduceSub, h0])
      simp only [aRes_none Try.results67]
      exact ⟨trivial, c⟩
    | false =>
      rw [d1] at p1 c2
      rw [Bool.false_or] at p1 c2 ⊢
      repeat (first | (with_reducible refine Wp.st ?_; simp only [wS]) | with_reducible refine Wp.drawS (by decide +kernel) ?_ | simp (disch := (first | (simp only [List.length_set, hl]; omega) | omega | rfl)) only [walkA, walkB, bne_self_eq_false, beq_self_eq_true, Option.map_some, Option.map_none, reduceIte, decide_true, decide_false, Int.reduceLT, Int.reduceLE, Int.reduceMul, Int.reduceAdd, Int.reduceSub, h0, h1', lb, p1, faO0, faO1, lr, hcv, d1])
      refine (oU32 c2 w1 hsz).mono ?_
      intro v h3 q
      rw [q.1]
      replace c := q.2
      clear q
      repeat (first | (with_reducible refine Wp.st ?_; simp only [wS]) | with_reducible refine Wp.drawS (by decide +kernel) ?_ | simp (disch := (first | (simp only [List.length_set, hl]; omega) | omega | rfl)) only [walkA, walkB, bne_self_eq_false, beq_self_eq_true, Option.map_some, Option.map_none, reduceIte, decide_true, decide_false, Int.reduceLT, Int.reduceLE, Int.reduceMul, Int.reduceAdd, Int.reduceSub, h0])
      simp only [aRes_none Try.results67]
      exact ⟨trivial, c⟩
set_option maxHeartbeats 1000000 in
theorem oUpto {v0 a b : Int} (c : OW Z H0 h ko kw x L) (hsz : small9 x) : Cl Try.prog 44 [pt ko 0, .int .i64 v0, .int .i64 a, .int .i64 b] h fun v h' => v = .tuple #[] ∧ OW Z H0 h' ko kw (wNum a b v0 x) L := by
  have hcv := fun x hx => conv_int (h := hx) (k' := .i64) (n := x) Try.underlying3 Try.underlying23
  have e0 : wNum a b v0 x = wU32 (IntKind.u32.wrap v0) ⟨x.bs, x.bad || badIn a b v0⟩ := rfl
  rw [e0, badIn_two]
  refine Cl.enter Try.func44 rfl _ Try.ntmps44 (by simp) ?_
  intro env hl ha
  have h0 : sl env 0 = pt ko 0 := ha 0 (by simp)
  have h1 : sl env 1 = .int .i64 v0 := ha 1 (by simp)
  have h2 : sl env 2 = .int .i64 a := ha 2 (by simp)
  have h3 : sl env 3 = .int .i64 b := ha 3 (by simp)
  clear ha
  have h1' := h1
  have h2' := h2
  have h3' := h3
  clear h1 h2 h3
  have lb := c.lb
  have w1 := wrap32_le v0
  obtain ⟨h2, p1, c2⟩ := c.sb (x.bad || (decide (v0 < a) || decide (v0 > b)))
  have lr := c2.lr
  cases hb : x.bad with
  | true =>
    rw [hb] at lb p1 c2
    rw [Bool.true_or] at p1 c2 ⊢
    repeat (first | (with_reducible refine Wp.st ?_; simp only [wS]) | with_reducible refine Wp.drawS (by decide +kernel) ?_ | simp (disch := (first | (simp only [List.length_set, hl]; omega) | omega | rfl)) only [walkA, walkB, bne_self_eq_false, beq_self_eq_true, Option.map_some, Option.map_none, reduceIte, decide_true, decide_false, Int.reduceLT, Int.reduceLE, Int.reduceMul, Int.reduceAdd, Int.reduceSub, h0, h1', h2', h3', lb, p1, faO0, faO1, lr, hcv])
    refine (oU32 c2 w1 hsz).mono ?_
    intro v h3 q
    rw [q.1]
    replace c := q.2
    clear q
    repeat (first | (with_reducible refine Wp.st ?_; simp only [wS]) | with_reducible refine Wp.drawS (by decide +kernel) ?_ | simp (disch := (first | (simp only [List.length_set, hl]; omega) | omega | rfl)) only [walkA, walkB, bne_self_eq_false, beq_self_eq_true, Option.map_some, Option.map_none, reduceIte, decide_true, decide_false, Int.reduceLT, Int.reduceLE, Int.reduceMul, Int.reduceAdd, Int.reduceSub, h0])
    simp only [aRes_none Try.results44]
    exact ⟨trivial, c⟩
  | false =>
    rw [hb] at lb p1 c2
    rw [Bool.false_or] at p1 c2 ⊢
    cases d1 : decide (v0 < a) with
    | true =>
      rw [d1] at p1 c2
      rw [Bool.true_or] at p1 c2 ⊢
      repeat (first | (with_reducible refine Wp.st ?_; simp only [wS]) | with_reducible refine Wp.drawS (by decide +kernel) ?_ | simp (disch := (first | (simp only [List.length_set, hl]; omega) | omega | rfl)) only [walkA, walkB, bne_self_eq_false, beq_self_eq_true, Option.map_some, Option.map_none, reduceIte, decide_true, decide_false, Int.reduceLT, Int.reduceLE, Int.reduceMul, Int.reduceAdd, Int.reduceSub, h0, h1', h2', h3', lb, p1, faO0, faO1, lr, hcv, d1])
      refine (oU32 c2 w1 hsz).mono ?_
      intro v h3 q
      rw [q.1]
      replace c := q.2
      clear q
      repeat (first | (with_reducible refine Wp.st ?_; simp only [wS]) | with_reducible refine Wp.drawS (by decide +kernel) ?_ | simp (disch := (first | (simp only [List.length_set, hl]; omega) | omega | rfl)) only [walkA, walkB, bne_self_eq_false, beq_self_eq_true, Option.map_some, Option.map_none, reduceIte, decide_true, decide_false, Int.reduceLT, Int.reduceLE, Int.reduceMul, Int.reduceAdd, Int.reduceSub, h0])
      simp only [aRes_none Try.results44]
      exact ⟨trivial, c⟩
    | false =>
      rw [d1] at p1 c2
      rw [Bool.false_or] at p1 c2 ⊢
      repeat (first | (with_reducible refine Wp.st ?_; simp only [wS]) | with_reducible refine Wp.drawS (by decide +kernel) ?_ | simp (disch := (first | (simp only [List.length_set, hl]; omega) | omega | rfl)) only [walkA, walkB, bne_self_eq_false, beq_self_eq_true, Option.map_some, Option.map_none, reduceIte, decide_true, decide_false, Int.reduceLT, Int.reduceLE, Int.reduceMul, Int.reduceAdd, Int.reduceSub, h0, h1', h2', h3', lb, p1, faO0, faO1, lr, hcv, d1])
      refine (oU32 c2 w1 hsz).mono ?_
      intro v h3 q
      rw [q.1]
      replace c := q.2
      clear q
      repeat (first | (with_reducible refine Wp.st ?_; simp only [wS]) | with_reducible refine Wp.drawS (by decide +kernel) ?_ | simp (disch := (first | (simp only [List.length_set, hl]; omega) | omega | rfl)) only [walkA, walkB, bne_self_eq_false, beq_self_eq_true, Option.map_some, Option.map_none, reduceIte, decide_true, decide_false, Int.reduceLT, Int.reduceLE, Int.reduceMul, Int.reduceAdd, Int.reduceSub, h0])
      simp only [aRes_none Try.results44]
      exact ⟨trivial, c⟩
end
end Go.Proofs.Ytanknjpcgceccaa

namespace Go.Proofs.Ytanknjpcgceccaa
open Go Go.AM
set_option linter.unusedSimpArgs false
set_option maxRecDepth 100000
attribute [local irreducible] WOps WV WH WSt WNil WPick WGd
theorem Wp.cond_join {P : Program} {Q : AX → List Value → Heap → Prop} {K S : List Value → Heap → Prop} {env : List Value} {h : Heap} {c : Operand} {a b : Code} {t : Bool} (hc : aEval env c = .bool t)
    (ht : t = true → Wp P a (fun ax e h' => ax = .normal ∧ S e h') env h) (hf : t = false → Wp P b (fun ax e h' => ax = .normal ∧ S e h') env h) (k : ∀ e h', S e h' → K e h') : Wp P (.cond c a b) (AX.andThen K Q) env h := by
  cases t with
  | true => exact Wp.cond_true hc ((ht rfl).mono fun ax e h' q => by rw [q.1]; exact k _ _ q.2)
  | false => exact Wp.cond_false hc ((hf rfl).mono fun ax e h' q => by rw [q.1]; exact k _ _ q.2)
theorem Wp.cond_last {P : Program} {Q : AX → List Value → Heap → Prop} {S : List Value → Heap → Prop} {env : List Value} {h : Heap} {c : Operand} {a b : Code} {t : Bool} (hc : aEval env c = .bool t)
    (ht : t = true → Wp P a (fun ax e h' => ax = .normal ∧ S e h') env h) (hf : t = false → Wp P b (fun ax e h' => ax = .normal ∧ S e h') env h) (k : ∀ e h', S e h' → Q .normal e h') : Wp P (.cond c a b) Q env h := by
  cases t with
  | true => exact Wp.cond_true hc ((ht rfl).mono fun ax e h' q => by rw [q.1]; exact k _ _ q.2)
  | false => exact Wp.cond_false hc ((hf rfl).mono fun ax e h' q => by rw [q.1]; exact k _ _ q.2)
def wIf (b : Bool) (f : WS → WS) (x : WS) : WS := if b = true then f (wBool b x) else wBool b x
def wTime (a b : Int) (x : WS) : WS := wU32 b (wU32 a x)
def wHow (hw a b : Int) (x : WS) : WS := if hw = 2 then wTime a b (wNum 0 2 hw x) else wNum 0 2 hw x
theorem wIf_t {b : Bool} {f : WS → WS} {x : WS} (hb : b = true) : wIf b f x = f (wBool b x) := if_pos hb
theorem wIf_f {b : Bool} {f : WS → WS} {x : WS} (hb : b = false) : wIf b f x = wBool b x := if_neg (by simp [hb])
theorem wHow_t {hw a b : Int} {x : WS} (hb : hw = 2) : wHow hw a b x = wTime a b (wNum 0 2 hw x) := if_pos hb
theorem wHow_f {hw a b : Int} {x : WS} (hb : ¬ hw = 2) : wHow hw a b x = wNum 0 2 hw x := if_neg hb
theorem wIf_eq {b bd : Bool} {f : WS → WS} {l : List Value} {x : WS} (hf : ∀ y, f y = ⟨y.bs ++ l, y.bad || bd⟩) : wIf b f x = ⟨x.bs ++ wOpt b l, x.bad || (b && bd)⟩ := by
  unfold wIf wOpt
  cases b <;> simp [hf, wBool, wTr]
theorem wHow_eq {hw a b : Int} {x : WS} : wHow hw a b x = ⟨x.bs ++ wHowB hw a b, x.bad || badIn 0 2 hw⟩ := by
  unfold wHow wHowB
  by_cases e : hw = 2
  · rw [if_pos e, if_pos e]; simp [wTime, wU32, wNum]
  · rw [if_neg e, if_neg e]; simp [wNum]
theorem wSet_eq (s : SA) (x : WS) : wSet s x = wHow s.mh s.m1 s.m2 (wHow s.ah s.a1 s.a2 (wIf s.hs (wU64 s.size) (wIf s.hg (wU32 s.gid) (wIf s.hu (wU32 s.uid) (wIf s.hm (wNum 0 4294967295 s.mode) x))))) := by
  rw [wHow_eq, wHow_eq, wIf_eq (l := beTo s.size 8) (bd := false) (fun y => by simp [wU64]), wIf_eq (l := beTo s.gid 4) (bd := false) (fun y => by simp [wU32]), wIf_eq (l := beTo s.uid 4) (bd := false) (fun y => by simp [wU32]), wIf_eq (f := wNum 0 4294967295 s.mode) (l := beTo (IntKind.u32.wrap s.mode) 4) (bd := badIn 0 4294967295 s.mode) (fun y => rfl)]
  simp [wSet, wSetB, wSetBad, Bool.or_assoc]
section
variable {n : Nat} {x : WS}
theorem sm_if {b : Bool} {f : WS → WS} (hf : ∀ {y : WS} {k : Nat}, Sm k y → Sm (k + 1) (f y)) (h : Sm n x) : Sm (n + 2) (wIf b f x) := by
  unfold wIf; split
  · exact hf (sm_bool h)
  · exact (sm_bool h).le (by omega)
theorem sm_time {a b : Int} (h : Sm n x) : Sm (n + 2) (wTime a b x) := sm_u32 (sm_u32 h)
theorem sm_how {hw a b : Int} (h : Sm n x) : Sm (n + 3) (wHow hw a b x) := by
  unfold wHow; split
  · exact sm_time (sm_num h)
  · exact (sm_num h).le (by omega)
end
section
variable {Z : Nat → Prop} {H0 h h' : Heap} {ko kw : Nat} {x : WS} {L L' : List Blk} {kt : Nat} {cs : List Value} {T : TypeId} {b : Blk}
theorem OW.ldv {t : TypeId} {d : TypeDesc} {v : Value} (c : OW Z H0 h ko kw x ((kt, cs, T) :: L)) (hu : Try.prog.underlying t = some d) (h1 : ∀ fs, d ≠ .struct fs) (h2 : ∀ n e, d ≠ .array n e) (o : Nat) (hv : cs[o]? = some v) : aLoad Try.prog h t (pt kt o) = some v := by rw [c.ld hu h1 h2 o, hv]
theorem OW.ldB {v : Value} (c : OW Z H0 h ko kw x ((kt, cs, T) :: L)) (o : Nat) (hv : cs[o]? = some v) : aLoad Try.prog h 4 (pt kt o) = some v := c.ldv Try.underlying4 (by simp) (by simp) o hv
theorem OW.ldI {v : Value} (c : OW Z H0 h ko kw x ((kt, cs, T) :: L)) (o : Nat) (hv : cs[o]? = some v) : aLoad Try.prog h 3 (pt kt o) = some v := c.ldv Try.underlying3 (by simp) (by simp) o hv
theorem OW.ld32 {v : Value} (c : OW Z H0 h ko kw x ((kt, cs, T) :: L)) (o : Nat) (hv : cs[o]? = some v) : aLoad Try.prog h 23 (pt kt o) = some v := c.ldv Try.underlying23 (by simp) (by simp) o hv
theorem OW.ld64 {v : Value} (c : OW Z H0 h ko kw x ((kt, cs, T) :: L)) (o : Nat) (hv : cs[o]? = some v) : aLoad Try.prog h 24 (pt kt o) = some v := c.ldv Try.underlying24 (by simp) (by simp) o hv
theorem OW.ldStr {v : Value} (c : OW Z H0 h ko kw x ((kt, cs, T) :: L)) (o : Nat) (hv : cs[o]? = some v) : aLoad Try.prog h 9 (pt kt o) = some v := c.ldv Try.underlying9 (by simp) (by simp) o hv
theorem OW.ldRow {v : Value} (c : OW Z H0 h ko kw x ((kt, cs, T) :: L)) (o : Nat) (hv : cs[o]? = some v) : aLoad Try.prog h 22 (pt kt o) = some v := c.ldv Try.underlying22 (by simp) (by simp) o hv
theorem OW.ldT {v w : Value} (c : OW Z H0 h ko kw x ((kt, cs, T) :: L)) (o : Nat) (hv : cs[o]? = some v) (hw : cs[o + 1]? = some w) : aLoad Try.prog h 26 (pt kt o) = some (.agg #[v, w]) := by
  obtain ⟨hl, e⟩ := List.getElem?_eq_some_iff.1 hw
  obtain ⟨hl2, e2⟩ := List.getElem?_eq_some_iff.1 hv
  rw [c.ldS Try.underlying26 iTime o (by show o + 2 ≤ _; omega)]
  have : (cs.drop o).take 2 = [v, w] := by
    rw [List.drop_eq_getElem_cons hl2, List.drop_eq_getElem_cons hl, e, e2]; rfl
  show some (Value.agg ((cs.drop o).take 2).toArray) = _
  rw [this]
theorem lenStr {s : ByteArray} {h : Heap} : aBuiltin Try.prog h .len [9] [.string s] = some (.int .i64 s.size, h) := by simp [aBuiltin, AM.aLen]
set_option maxHeartbeats 1000000 in
theorem oText {s0 : ByteArray} {most : Int} (c : OW Z H0 h ko kw x L) (hs0 : s0.size ≤ 40000) (hsz : small9 x) : Cl Try.prog 38 [pt ko 0, .string s0, .int .i64 most] h fun v h' => v = .tuple #[] ∧ OW Z H0 h' ko kw (wText most s0 x) L := by
  have e0 : wText most s0 x = ⟨x.bs ++ (beTo (strB s0).length 4 ++ (strB s0 ++ padB (strB s0).length)), x.bad || decide ((s0.size : Int) > most)⟩ := by
    have : (!(decide ((s0.size : Int) ≤ most))) = decide ((s0.size : Int) > most) := by rw [Bool.eq_iff_iff]; simp
    rw [strB_len]; unfold wText; rw [this]
  rw [e0]
  refine Cl.enter Try.func38 rfl _ Try.ntmps38 (by simp) ?_
  intro env hl ha
  have h0 : sl env 0 = pt ko 0 := ha 0 (by simp)
  have h1 : sl env 1 = .string s0 := ha 1 (by simp)
  have h2 : sl env 2 = .int .i64 most := ha 2 (by simp)
  clear ha
  have h1' := h1
  have h2' := h2
  clear h1 h2
  have lb := c.lb
  obtain ⟨h2, p1, c2⟩ := c.sb (x.bad || decide ((s0.size : Int) > most))
  have lr := c2.lr
  have cv : aConv Try.prog h2 9 22 (.string s0) = some (.slice (some ⟨h2.next, 0, none⟩) s0.size opnCap, h2.push (.cells (strB s0) 5 false)) := cvStr (h := h2) (s := s0) (by omega)
  have c3 := c2.alloc (strB s0) 5
  have r3 : Row (h2.push (.cells (strB s0) 5 false)) (.slice (some ⟨h2.next, 0, none⟩) s0.size opnCap) (strB s0) := by
    have := Row.whole (cap := opnCap) (Heap.get_push_new (h := h2) (e := .cells (strB s0) 5 false))
    rw [strB_len] at this
    exact this
  have hd3 : ∀ a n d, (.slice (some ⟨h2.next, 0, none⟩) s0.size opnCap : Value) = .slice (some a) n d → n ≠ 0 → Z a.block ∨ ∃ y ∈ ((h2.next, strB s0, 5) :: L), y.1 = a.block := fun a n d e _ => by
    injection e with e1
    injection e1 with e1
    subst e1
    exact .inr ⟨_, List.mem_cons_self, rfl⟩
  generalize h2.push (.cells (strB s0) 5 false) = h3 at cv c3 r3
  have fin := oBytes c3 r3 (strB_one s0) hd3 (by rw [strB_len]; exact hs0) hsz
  clear hd3 r3 c3
  cases hb : x.bad with
  | true =>
    rw [hb] at lb p1 fin
    rw [Bool.true_or] at p1 fin ⊢
    repeat (first | (with_reducible refine Wp.st ?_; simp only [wS]) | with_reducible refine Wp.drawS (by decide +kernel) ?_ | simp (disch := (first | (simp only [List.length_set, hl]; omega) | omega | rfl)) only [walkA, walkB, bne_self_eq_false, beq_self_eq_true, Option.map_some, Option.map_none, reduceIte, decide_true, decide_false, Int.reduceLT, Int.reduceLE, Int.reduceMul, Int.reduceAdd, Int.reduceSub, h0, h1', h2', lb, p1, faO0, faO1, lr, cv])
    refine fin.mono ?_
    intro v h3 q
    rw [q.1]
    replace c := q.2
    clear q
    repeat (first | (with_reducible refine Wp.st ?_; simp only [wS]) | with_reducible refine Wp.drawS (by decide +kernel) ?_ | simp (disch := (first | (simp only [List.length_set, hl]; omega) | omega | rfl)) only [walkA, walkB, bne_self_eq_false, beq_self_eq_true, Option.map_some, Option.map_none, reduceIte, decide_true, decide_false, Int.reduceLT, Int.reduceLE, Int.reduceMul, Int.reduceAdd, Int.reduceSub, h0])
    simp only [aRes_none Try.results38]
    exact ⟨trivial, c.drop⟩
  | false =>
    rw [hb] at lb p1 fin
    rw [Bool.false_or] at p1 fin ⊢
    repeat (first | (with_reducible refine Wp.st ?_; simp only [wS]) | with_reducible refine Wp.drawS (by decide +kernel) ?_ | simp (disch := (first | (simp only [List.length_set, hl]; omega) | omega | rfl)) only [walkA, walkB, bne_self_eq_false, beq_self_eq_true, Option.map_some, Option.map_none, reduceIte, decide_true, decide_false, Int.reduceLT, Int.reduceLE, Int.reduceMul, Int.reduceAdd, Int.reduceSub, h0, h1', h2', lb, p1, faO0, faO1, lr, cv, lenStr])
    refine fin.mono ?_
    intro v h3 q
    rw [q.1]
    replace c := q.2
    clear q
    repeat (first | (with_reducible refine Wp.st ?_; simp only [wS]) | with_reducible refine Wp.drawS (by decide +kernel) ?_ | simp (disch := (first | (simp only [List.length_set, hl]; omega) | omega | rfl)) only [walkA, walkB, bne_self_eq_false, beq_self_eq_true, Option.map_some, Option.map_none, reduceIte, decide_true, decide_false, Int.reduceLT, Int.reduceLE, Int.reduceMul, Int.reduceAdd, Int.reduceSub, h0])
    simp only [aRes_none Try.results38]
    exact ⟨trivial, c.drop⟩
set_option maxHeartbeats 1000000 in
theorem oTime {n m : Int} (c : OW Z H0 h ko kw x L) (hn : u32r n) (hm : u32r m) (sm : Sm 26 x) : Cl Try.prog 41 [pt ko 0, .agg #[.int .u32 n, .int .u32 m]] h fun v h' => v = .tuple #[] ∧ OW Z H0 h' ko kw (wTime n m x) L := by
  refine Cl.enter Try.func41 rfl _ Try.ntmps41 (by simp) ?_
  intro env hl ha
  have h0 : sl env 0 = pt ko 0 := ha 0 (by simp)
  have h1 : sl env 1 = .agg #[.int .u32 n, .int .u32 m] := ha 1 (by simp)
  clear ha
  have xb : aBox h 26 (.agg #[.int .u32 n, .int .u32 m]) = some (pt h.next 0, h.push (.cells [.int .u32 n, .int .u32 m] 26 false)) := rfl
  replace c := c.alloc [.int .u32 n, .int .u32 m] 26
  generalize h.push (.cells [.int .u32 n, .int .u32 m] 26 false) = h2 at xb c
  generalize h.next = kt at xb c
  repeat' (first | (with_reducible refine Wp.st ?_; simp only [wS]) | with_reducible refine Wp.drawS (by decide +kernel) ?_ | (refine Wp.cond_true ?_ ?_; focus ((simp (disch := (first | (simp only [List.length_set, hl]; omega) | omega | rfl)) only [sL, aEval_tmp]); done)) | (refine Wp.cond_false ?_ ?_; focus ((simp (disch := (first | (simp only [List.length_set, hl]; omega) | omega | rfl)) only [sL, aEval_tmp]); done)) | ((with_reducible apply Cl.mono (oU32 c ?g0 ?g1)); (case g0 => (assumption)); (case g1 => ((refine Sm.s9 ?_; (repeat (with_reducible first | refine sm_text (by assumption) ?_ | refine sm_u32 ?_ | refine sm_u64 ?_ | refine sm_num ?_ | refine sm_set ?_ | refine sm_time ?_ | refine sm_if (sm_u32) ?_ | refine sm_if (sm_u64) ?_ | refine sm_if (sm_num) ?_ | refine sm_how ?_ | refine sm_bool ?_ | refine sm_row (by assumption) ?_)); exact Sm.le sm (by decide)))); intro v ha q; (try rw [q.1]); replace c := q.2; clear q) | simp (disch := (first | (simp only [List.length_set, hl]; omega) | omega | rfl)) only [walkA, walkB, bne_self_eq_false, beq_self_eq_true, Option.map_some, Option.map_none, reduceIte, decide_true, decide_false, Int.reduceLT, Int.reduceLE, Int.reduceMul, Int.reduceAdd, Int.reduceSub, h0, h1, xb, faO0, faT0, faT1, c.lr, c.ld32 0 rfl, c.ld32 1 rfl , Int.reduceBEq, Int.reduceBNe, Int.reduceGT, Int.reduceGE, Nat.reduceAdd])
  simp only [aRes_none Try.results41]
  exact ⟨trivial, c.drop⟩
set_option maxHeartbeats 4000000 in
theorem oSet {s : SA} (hs : s.OK) (c : OW Z H0 h ko kw x L) (sm : Sm 12 x) : Cl Try.prog 39 [pt ko 0, .agg s.cells.toArray] h fun v h' => v = .tuple #[] ∧ OW Z H0 h' ko kw (wSet s x) L := by
  rw [wSet_eq]
  obtain ⟨hm, hu, hg, hz, mode, uid, gid, size, ah, mh, a1, a2, m1, m2⟩ := s
  obtain ⟨q1, q2, q3, q4, q5, q6⟩ := hs
  refine Cl.enter Try.func39 rfl _ Try.ntmps39 (by simp) ?_
  intro env hl ha
  have h0 : sl env 0 = pt ko 0 := ha 0 (by simp)
  have h1 : sl env 1 = .agg (SA.cells ⟨hm, hu, hg, hz, mode, uid, gid, size, ah, mh, a1, a2, m1, m2⟩).toArray := ha 1 (by simp)
  clear ha
  have xb : aBox h 28 (.agg (SA.cells ⟨hm, hu, hg, hz, mode, uid, gid, size, ah, mh, a1, a2, m1, m2⟩).toArray) = some (pt h.next 0, h.push (.cells (SA.cells ⟨hm, hu, hg, hz, mode, uid, gid, size, ah, mh, a1, a2, m1, m2⟩) 28 false)) := rfl
  replace c := c.alloc (SA.cells ⟨hm, hu, hg, hz, mode, uid, gid, size, ah, mh, a1, a2, m1, m2⟩) 28
  generalize h.push (.cells (SA.cells ⟨hm, hu, hg, hz, mode, uid, gid, size, ah, mh, a1, a2, m1, m2⟩) 28 false) = h2 at xb c
  generalize h.next = kt at xb c
  have k0 : (SA.cells ⟨hm, hu, hg, hz, mode, uid, gid, size, ah, mh, a1, a2, m1, m2⟩)[0]? = some (.bool hm) := rfl
  have k1 : (SA.cells ⟨hm, hu, hg, hz, mode, uid, gid, size, ah, mh, a1, a2, m1, m2⟩)[1]? = some (.bool hu) := rfl
  have k2 : (SA.cells ⟨hm, hu, hg, hz, mode, uid, gid, size, ah, mh, a1, a2, m1, m2⟩)[2]? = some (.bool hg) := rfl
  have k3 : (SA.cells ⟨hm, hu, hg, hz, mode, uid, gid, size, ah, mh, a1, a2, m1, m2⟩)[3]? = some (.bool hz) := rfl
  have k4 : (SA.cells ⟨hm, hu, hg, hz, mode, uid, gid, size, ah, mh, a1, a2, m1, m2⟩)[4]? = some (.int .i64 mode) := rfl
  have k5 : (SA.cells ⟨hm, hu, hg, hz, mode, uid, gid, size, ah, mh, a1, a2, m1, m2⟩)[5]? = some (.int .u32 uid) := rfl
  have k6 : (SA.cells ⟨hm, hu, hg, hz, mode, uid, gid, size, ah, mh, a1, a2, m1, m2⟩)[6]? = some (.int .u32 gid) := rfl
  have k7 : (SA.cells ⟨hm, hu, hg, hz, mode, uid, gid, size, ah, mh, a1, a2, m1, m2⟩)[7]? = some (.int .u64 size) := rfl
  have k8 : (SA.cells ⟨hm, hu, hg, hz, mode, uid, gid, size, ah, mh, a1, a2, m1, m2⟩)[8]? = some (.int .i64 ah) := rfl
  have k9 : (SA.cells ⟨hm, hu, hg, hz, mode, uid, gid, size, ah, mh, a1, a2, m1, m2⟩)[9]? = some (.int .i64 mh) := rfl
  have k10 : (SA.cells ⟨hm, hu, hg, hz, mode, uid, gid, size, ah, mh, a1, a2, m1, m2⟩)[10]? = some (.int .u32 a1) := rfl
  have k11 : (SA.cells ⟨hm, hu, hg, hz, mode, uid, gid, size, ah, mh, a1, a2, m1, m2⟩)[11]? = some (.int .u32 a2) := rfl
  have k12 : (SA.cells ⟨hm, hu, hg, hz, mode, uid, gid, size, ah, mh, a1, a2, m1, m2⟩)[12]? = some (.int .u32 m1) := rfl
  have k13 : (SA.cells ⟨hm, hu, hg, hz, mode, uid, gid, size, ah, mh, a1, a2, m1, m2⟩)[13]? = some (.int .u32 m2) := rfl
  generalize SA.cells ⟨hm, hu, hg, hz, mode, uid, gid, size, ah, mh, a1, a2, m1, m2⟩ = cs at *
  with_reducible refine Wp.seq ?_
  with_reducible refine Wp.region ?_
  simp (disch := (first | (simp only [List.length_set, hl]; omega) | omega | rfl)) only [walkA, walkB, bne_self_eq_false, beq_self_eq_true, Option.map_some, Option.map_none, reduceIte, decide_true, decide_false, Int.reduceLT, Int.reduceLE, Int.reduceMul, Int.reduceAdd, Int.reduceSub, h0, h1, xb]
  refine Wp.cut (fun e hh => e.length = 87 ∧ sl e 0 = pt ko 0 ∧ sl e 3 = pt kt 0 ∧ OW Z H0 hh ko kw x ((kt, cs, 28) :: L)) ⟨by simp [hl], (by (simp (disch := (first | (simp only [List.length_set, hl]; omega) | omega | rfl)) only [sL, h0])), (by (simp (disch := (first | (simp only [List.length_set, hl]; omega) | omega | rfl)) only [sL])), c⟩ ?_
  clear h0 h1 hl c xb
  clear env
  intro env h q
  obtain ⟨hl, h0, h3, c⟩ := q
  repeat' (first | (with_reducible refine Wp.st ?_; simp only [wS]) | with_reducible refine Wp.drawS (by decide +kernel) ?_ | (refine Wp.cond_true ?_ ?_; focus ((simp (disch := (first | (simp only [List.length_set, hl]; omega) | omega | rfl)) only [sL, aEval_tmp]); done)) | (refine Wp.cond_false ?_ ?_; focus ((simp (disch := (first | (simp only [List.length_set, hl]; omega) | omega | rfl)) only [sL, aEval_tmp]); done)) | ((with_reducible apply Cl.mono (oU32 c ?g0 ?g1)); (case g0 => (assumption)); (case g1 => ((refine Sm.s9 ?_; (repeat (with_reducible first | refine sm_text (by assumption) ?_ | refine sm_u32 ?_ | refine sm_u64 ?_ | refine sm_num ?_ | refine sm_set ?_ | refine sm_time ?_ | refine sm_if (sm_u32) ?_ | refine sm_if (sm_u64) ?_ | refine sm_if (sm_num) ?_ | refine sm_how ?_ | refine sm_bool ?_ | refine sm_row (by assumption) ?_)); exact Sm.le sm (by decide)))); intro v ha q; (try rw [q.1]); replace c := q.2; clear q) | ((with_reducible apply Cl.mono (oU64 c ?g0)); (case g0 => ((refine Sm.s9 ?_; (repeat (with_reducible first | refine sm_text (by assumption) ?_ | refine sm_u32 ?_ | refine sm_u64 ?_ | refine sm_num ?_ | refine sm_set ?_ | refine sm_time ?_ | refine sm_if (sm_u32) ?_ | refine sm_if (sm_u64) ?_ | refine sm_if (sm_num) ?_ | refine sm_how ?_ | refine sm_bool ?_ | refine sm_row (by assumption) ?_)); exact Sm.le sm (by decide)))); intro v ha q; (try rw [q.1]); replace c := q.2; clear q) | ((with_reducible apply Cl.mono (oBool c ?g0)); (case g0 => ((refine Sm.s9 ?_; (repeat (with_reducible first | refine sm_text (by assumption) ?_ | refine sm_u32 ?_ | refine sm_u64 ?_ | refine sm_num ?_ | refine sm_set ?_ | refine sm_time ?_ | refine sm_if (sm_u32) ?_ | refine sm_if (sm_u64) ?_ | refine sm_if (sm_num) ?_ | refine sm_how ?_ | refine sm_bool ?_ | refine sm_row (by assumption) ?_)); exact Sm.le sm (by decide)))); intro v ha q; (try rw [q.1]); replace c := q.2; clear q) | ((with_reducible apply Cl.mono (oNum c ?g0)); (case g0 => ((refine Sm.s9 ?_; (repeat (with_reducible first | refine sm_text (by assumption) ?_ | refine sm_u32 ?_ | refine sm_u64 ?_ | refine sm_num ?_ | refine sm_set ?_ | refine sm_time ?_ | refine sm_if (sm_u32) ?_ | refine sm_if (sm_u64) ?_ | refine sm_if (sm_num) ?_ | refine sm_how ?_ | refine sm_bool ?_ | refine sm_row (by assumption) ?_)); exact Sm.le sm (by decide)))); intro v ha q; (try rw [q.1]); replace c := q.2; clear q) | ((with_reducible apply Cl.mono (oUpto c ?g0)); (case g0 => ((refine Sm.s9 ?_; (repeat (with_reducible first | refine sm_text (by assumption) ?_ | refine sm_u32 ?_ | refine sm_u64 ?_ | refine sm_num ?_ | refine sm_set ?_ | refine sm_time ?_ | refine sm_if (sm_u32) ?_ | refine sm_if (sm_u64) ?_ | refine sm_if (sm_num) ?_ | refine sm_how ?_ | refine sm_bool ?_ | refine sm_row (by assumption) ?_)); exact Sm.le sm (by decide)))); intro v ha q; (try rw [q.1]); replace c := q.2; clear q) | ((with_reducible apply Cl.mono (oTime c ?g0 ?g1 ?g2)); (case g0 => (assumption)); (case g1 => (assumption)); (case g2 => ((skip; (repeat (with_reducible first | refine sm_text (by assumption) ?_ | refine sm_u32 ?_ | refine sm_u64 ?_ | refine sm_num ?_ | refine sm_set ?_ | refine sm_time ?_ | refine sm_if (sm_u32) ?_ | refine sm_if (sm_u64) ?_ | refine sm_if (sm_num) ?_ | refine sm_how ?_ | refine sm_bool ?_ | refine sm_row (by assumption) ?_)); exact Sm.le sm (by decide)))); intro v ha q; (try rw [q.1]); replace c := q.2; clear q) | simp (disch := (first | (simp only [List.length_set, hl]; omega) | omega | rfl)) only [walkA, walkB, bne_self_eq_false, beq_self_eq_true, Option.map_some, Option.map_none, reduceIte, decide_true, decide_false, Int.reduceLT, Int.reduceLE, Int.reduceMul, Int.reduceAdd, Int.reduceSub, h0, h3, faO0, faS0, faS1, faS2, faS3, faS4, faS5, faS6, faS7, faS8, faS9, faS10, faS11, c.lr, c.ldB 0 k0, c.ldB 1 k1, c.ldB 2 k2, c.ldB 3 k3, c.ldI 4 k4, c.ld32 5 k5, c.ld32 6 k6, c.ld64 7 k7, c.ldI 8 k8, c.ldI 9 k9, c.ldT 10 k10 k11, c.ldT 12 k12 k13 , Int.reduceBEq, Int.reduceBNe, Int.reduceGT, Int.reduceGE, Nat.reduceAdd])
  refine Wp.cond_join (S := fun e hh => e.length = 87 ∧ sl e 0 = pt ko 0 ∧ sl e 3 = pt kt 0 ∧ OW Z H0 hh ko kw (wIf hm (wNum 0 4294967295 mode) x) ((kt, cs, 28) :: L)) (by ((simp (disch := (first | (simp only [List.length_set, hl]; omega) | omega | rfl)) only [sL, aEval_tmp]); rfl)) ?_ ?_ ?_
  · intro hb
    repeat' (first | (with_reducible refine Wp.st ?_; simp only [wS]) | with_reducible refine Wp.drawS (by decide +kernel) ?_ | (refine Wp.cond_true ?_ ?_; focus ((simp (disch := (first | (simp only [List.length_set, hl]; omega) | omega | rfl)) only [sL, aEval_tmp]); done)) | (refine Wp.cond_false ?_ ?_; focus ((simp (disch := (first | (simp only [List.length_set, hl]; omega) | omega | rfl)) only [sL, aEval_tmp]); done)) | ((with_reducible apply Cl.mono (oU32 c ?g0 ?g1)); (case g0 => (assumption)); (case g1 => ((refine Sm.s9 ?_; (repeat (with_reducible first | refine sm_text (by assumption) ?_ | refine sm_u32 ?_ | refine sm_u64 ?_ | refine sm_num ?_ | refine sm_set ?_ | refine sm_time ?_ | refine sm_if (sm_u32) ?_ | refine sm_if (sm_u64) ?_ | refine sm_if (sm_num) ?_ | refine sm_how ?_ | refine sm_bool ?_ | refine sm_row (by assumption) ?_)); exact Sm.le sm (by decide)))); intro v ha q; (try rw [q.1]); replace c := q.2; clear q) | ((with_reducible apply Cl.mono (oU64 c ?g0)); (case g0 => ((refine Sm.s9 ?_; (repeat (with_reducible first | refine sm_text (by assumption) ?_ | refine sm_u32 ?_ | refine sm_u64 ?_ | refine sm_num ?_ | refine sm_set ?_ | refine sm_time ?_ | refine sm_if (sm_u32) ?_ | refine sm_if (sm_u64) ?_ | refine sm_if (sm_num) ?_ | refine sm_how ?_ | refine sm_bool ?_ | refine sm_row (by assumption) ?_)); exact Sm.le sm (by decide)))); intro v ha q; (try rw [q.1]); replace c := q.2; clear q) | ((with_reducible apply Cl.mono (oBool c ?g0)); (case g0 => ((refine Sm.s9 ?_; (repeat (with_reducible first | refine sm_text (by assumption) ?_ | refine sm_u32 ?_ | refine sm_u64 ?_ | refine sm_num ?_ | refine sm_set ?_ | refine sm_time ?_ | refine sm_if (sm_u32) ?_ | refine sm_if (sm_u64) ?_ | refine sm_if (sm_num) ?_ | refine sm_how ?_ | refine sm_bool ?_ | refine sm_row (by assumption) ?_)); exact Sm.le sm (by decide)))); intro v ha q; (try rw [q.1]); replace c := q.2; clear q) | ((with_reducible apply Cl.mono (oNum c ?g0)); (case g0 => ((refine Sm.s9 ?_; (repeat (with_reducible first | refine sm_text (by assumption) ?_ | refine sm_u32 ?_ | refine sm_u64 ?_ | refine sm_num ?_ | refine sm_set ?_ | refine sm_time ?_ | refine sm_if (sm_u32) ?_ | refine sm_if (sm_u64) ?_ | refine sm_if (sm_num) ?_ | refine sm_how ?_ | refine sm_bool ?_ | refine sm_row (by assumption) ?_)); exact Sm.le sm (by decide)))); intro v ha q; (try rw [q.1]); replace c := q.2; clear q) | ((with_reducible apply Cl.mono (oUpto c ?g0)); (case g0 => ((refine Sm.s9 ?_; (repeat (with_reducible first | refine sm_text (by assumption) ?_ | refine sm_u32 ?_ | refine sm_u64 ?_ | refine sm_num ?_ | refine sm_set ?_ | refine sm_time ?_ | refine sm_if (sm_u32) ?_ | refine sm_if (sm_u64) ?_ | refine sm_if (sm_num) ?_ | refine sm_how ?_ | refine sm_bool ?_ | refine sm_row (by assumption) ?_)); exact Sm.le sm (by decide)))); intro v ha q; (try rw [q.1]); replace c := q.2; clear q) | ((with_reducible apply Cl.mono (oTime c ?g0 ?g1 ?g2)); (case g0 => (assumption)); (case g1 => (assumption)); (case g2 => ((skip; (repeat (with_reducible first | refine sm_text (by assumption) ?_ | refine sm_u32 ?_ | refine sm_u64 ?_ | refine sm_num ?_ | refine sm_set ?_ | refine sm_time ?_ | refine sm_if (sm_u32) ?_ | refine sm_if (sm_u64) ?_ | refine sm_if (sm_num) ?_ | refine sm_how ?_ | refine sm_bool ?_ | refine sm_row (by assumption) ?_)); exact Sm.le sm (by decide)))); intro v ha q; (try rw [q.1]); replace c := q.2; clear q) | simp (disch := (first | (simp only [List.length_set, hl]; omega) | omega | rfl)) only [walkA, walkB, bne_self_eq_false, beq_self_eq_true, Option.map_some, Option.map_none, reduceIte, decide_true, decide_false, Int.reduceLT, Int.reduceLE, Int.reduceMul, Int.reduceAdd, Int.reduceSub, h0, h3, faO0, faS0, faS1, faS2, faS3, faS4, faS5, faS6, faS7, faS8, faS9, faS10, faS11, c.lr, c.ldB 0 k0, c.ldB 1 k1, c.ldB 2 k2, c.ldB 3 k3, c.ldI 4 k4, c.ld32 5 k5, c.ld32 6 k6, c.ld64 7 k7, c.ldI 8 k8, c.ldI 9 k9, c.ldT 10 k10 k11, c.ldT 12 k12 k13 , Int.reduceBEq, Int.reduceBNe, Int.reduceGT, Int.reduceGE, Nat.reduceAdd])
    rw [wIf_t hb]
    exact ⟨(by first | rfl | trivial), by simp [hl], (by first | trivial | ((simp (disch := (first | (simp only [List.length_set, hl]; omega) | omega | rfl)) only [sL, h0]))), (by first | trivial | ((simp (disch := (first | (simp only [List.length_set, hl]; omega) | omega | rfl)) only [sL, h3]))), c⟩
  · intro hb
    with_reducible refine Wp.skip ?_
    rw [wIf_f hb]
    exact ⟨(by first | rfl | trivial), by simp [hl], (by first | trivial | ((simp (disch := (first | (simp only [List.length_set, hl]; omega) | omega | rfl)) only [sL, h0]))), (by first | trivial | ((simp (disch := (first | (simp only [List.length_set, hl]; omega) | omega | rfl)) only [sL, h3]))), c⟩
  clear h0 h3 hl c
  clear env
  intro env h q
  obtain ⟨hl, h0, h3, c⟩ := q
  repeat' (first | (with_reducible refine Wp.st ?_; simp only [wS]) | with_reducible refine Wp.drawS (by decide +kernel) ?_ | (refine Wp.cond_true ?_ ?_; focus ((simp (disch := (first | (simp only [List.length_set, hl]; omega) | omega | rfl)) only [sL, aEval_tmp]); done)) | (refine Wp.cond_false ?_ ?_; focus ((simp (disch := (first | (simp only [List.length_set, hl]; omega) | omega | rfl)) only [sL, aEval_tmp]); done)) | ((with_reducible apply Cl.mono (oU32 c ?g0 ?g1)); (case g0 => (assumption)); (case g1 => ((refine Sm.s9 ?_; (repeat (with_reducible first | refine sm_text (by assumption) ?_ | refine sm_u32 ?_ | refine sm_u64 ?_ | refine sm_num ?_ | refine sm_set ?_ | refine sm_time ?_ | refine sm_if (sm_u32) ?_ | refine sm_if (sm_u64) ?_ | refine sm_if (sm_num) ?_ | refine sm_how ?_ | refine sm_bool ?_ | refine sm_row (by assumption) ?_)); exact Sm.le sm (by decide)))); intro v ha q; (try rw [q.1]); replace c := q.2; clear q) | ((with_reducible apply Cl.mono (oU64 c ?g0)); (case g0 => ((refine Sm.s9 ?_; (repeat (with_reducible first | refine sm_text (by assumption) ?_ | refine sm_u32 ?_ | refine sm_u64 ?_ | refine sm_num ?_ | refine sm_set ?_ | refine sm_time ?_ | refine sm_if (sm_u32) ?_ | refine sm_if (sm_u64) ?_ | refine sm_if (sm_num) ?_ | refine sm_how ?_ | refine sm_bool ?_ | refine sm_row (by assumption) ?_)); exact Sm.le sm (by decide)))); intro v ha q; (try rw [q.1]); replace c := q.2; clear q) | ((with_reducible apply Cl.mono (oBool c ?g0)); (case g0 => ((refine Sm.s9 ?_; (repeat (with_reducible first | refine sm_text (by assumption) ?_ | refine sm_u32 ?_ | refine sm_u64 ?_ | refine sm_num ?_ | refine sm_set ?_ | refine sm_time ?_ | refine sm_if (sm_u32) ?_ | refine sm_if (sm_u64) ?_ | refine sm_if (sm_num) ?_ | refine sm_how ?_ | refine sm_bool ?_ | refine sm_row (by assumption) ?_)); exact Sm.le sm (by decide)))); intro v ha q; (try rw [q.1]); replace c := q.2; clear q) | ((with_reducible apply Cl.mono (oNum c ?g0)); (case g0 => ((refine Sm.s9 ?_; (repeat (with_reducible first | refine sm_text (by assumption) ?_ | refine sm_u32 ?_ | refine sm_u64 ?_ | refine sm_num ?_ | refine sm_set ?_ | refine sm_time ?_ | refine sm_if (sm_u32) ?_ | refine sm_if (sm_u64) ?_ | refine sm_if (sm_num) ?_ | refine sm_how ?_ | refine sm_bool ?_ | refine sm_row (by assumption) ?_)); exact Sm.le sm (by decide)))); intro v ha q; (try rw [q.1]); replace c := q.2; clear q) | ((with_reducible apply Cl.mono (oUpto c ?g0)); (case g0 => ((refine Sm.s9 ?_; (repeat (with_reducible first | refine sm_text (by assumption) ?_ | refine sm_u32 ?_ | refine sm_u64 ?_ | refine sm_num ?_ | refine sm_set ?_ | refine sm_time ?_ | refine sm_if (sm_u32) ?_ | refine sm_if (sm_u64) ?_ | refine sm_if (sm_num) ?_ | refine sm_how ?_ | refine sm_bool ?_ | refine sm_row (by assumption) ?_)); exact Sm.le sm (by decide)))); intro v ha q; (try rw [q.1]); replace c := q.2; clear q) | ((with_reducible apply Cl.mono (oTime c ?g0 ?g1 ?g2)); (case g0 => (assumption)); (case g1 => (assumption)); (case g2 => ((skip; (repeat (with_reducible first | refine sm_text (by assumption) ?_ | refine sm_u32 ?_ | refine sm_u64 ?_ | refine sm_num ?_ | refine sm_set ?_ | refine sm_time ?_ | refine sm_if (sm_u32) ?_ | refine sm_if (sm_u64) ?_ | refine sm_if (sm_num) ?_ | refine sm_how ?_ | refine sm_bool ?_ | refine sm_row (by assumption) ?_)); exact Sm.le sm (by decide)))); intro v ha q; (try rw [q.1]); replace c := q.2; clear q) | simp (disch := (first | (simp only [List.length_set, hl]; omega) | omega | rfl)) only [walkA, walkB, bne_self_eq_false, beq_self_eq_true, Option.map_some, Option.map_none, reduceIte, decide_true, decide_false, Int.reduceLT, Int.reduceLE, Int.reduceMul, Int.reduceAdd, Int.reduceSub, h0, h3, faO0, faS0, faS1, faS2, faS3, faS4, faS5, faS6, faS7, faS8, faS9, faS10, faS11, c.lr, c.ldB 0 k0, c.ldB 1 k1, c.ldB 2 k2, c.ldB 3 k3, c.ldI 4 k4, c.ld32 5 k5, c.ld32 6 k6, c.ld64 7 k7, c.ldI 8 k8, c.ldI 9 k9, c.ldT 10 k10 k11, c.ldT 12 k12 k13 , Int.reduceBEq, Int.reduceBNe, Int.reduceGT, Int.reduceGE, Nat.reduceAdd])
  refine Wp.cond_join (S := fun e hh => e.length = 87 ∧ sl e 0 = pt ko 0 ∧ sl e 3 = pt kt 0 ∧ OW Z H0 hh ko kw (wIf hu (wU32 uid) (wIf hm (wNum 0 4294967295 mode) x)) ((kt, cs, 28) :: L)) (by ((simp (disch := (first | (simp only [List.length_set, hl]; omega) | omega | rfl)) only [sL, aEval_tmp]); rfl)) ?_ ?_ ?_
  · intro hb
    repeat' (first | (with_reducible refine Wp.st ?_; simp only [wS]) | with_reducible refine Wp.drawS (by decide +kernel) ?_ | (refine Wp.cond_true ?_ ?_; focus ((simp (disch := (first | (simp only [List.length_set, hl]; omega) | omega | rfl)) only [sL, aEval_tmp]); done)) | (refine Wp.cond_false ?_ ?_; focus ((simp (disch := (first | (simp only [List.length_set, hl]; omega) | omega | rfl)) only [sL, aEval_tmp]); done)) | ((with_reducible apply Cl.mono (oU32 c ?g0 ?g1)); (case g0 => (assumption)); (case g1 => ((refine Sm.s9 ?_; (repeat (with_reducible first | refine sm_text (by assumption) ?_ | refine sm_u32 ?_ | refine sm_u64 ?_ | refine sm_num ?_ | refine sm_set ?_ | refine sm_time ?_ | refine sm_if (sm_u32) ?_ | refine sm_if (sm_u64) ?_ | refine sm_if (sm_num) ?_ | refine sm_how ?_ | refine sm_bool ?_ | refine sm_row (by assumption) ?_)); exact Sm.le sm (by decide)))); intro v ha q; (try rw [q.1]); replace c := q.2; clear q) | ((with_reducible apply Cl.mono (oU64 c ?g0)); (case g0 => ((refine Sm.s9 ?_; (repeat (with_reducible first | refine sm_text (by assumption) ?_ | refine sm_u32 ?_ | refine sm_u64 ?_ | refine sm_num ?_ | refine sm_set ?_ | refine sm_time ?_ | refine sm_if (sm_u32) ?_ | refine sm_if (sm_u64) ?_ | refine sm_if (sm_num) ?_ | refine sm_how ?_ | refine sm_bool ?_ | refine sm_row (by assumption) ?_)); exact Sm.le sm (by decide)))); intro v ha q; (try rw [q.1]); replace c := q.2; clear q) | ((with_reducible apply Cl.mono (oBool c ?g0)); (case g0 => ((refine Sm.s9 ?_; (repeat (with_reducible first | refine sm_text (by assumption) ?_ | refine sm_u32 ?_ | refine sm_u64 ?_ | refine sm_num ?_ | refine sm_set ?_ | refine sm_time ?_ | refine sm_if (sm_u32) ?_ | refine sm_if (sm_u64) ?_ | refine sm_if (sm_num) ?_ | refine sm_how ?_ | refine sm_bool ?_ | refine sm_row (by assumption) ?_)); exact Sm.le sm (by decide)))); intro v ha q; (try rw [q.1]); replace c := q.2; clear q) | ((with_reducible apply Cl.mono (oNum c ?g0)); (case g0 => ((refine Sm.s9 ?_; (repeat (with_reducible first | refine sm_text (by assumption) ?_ | refine sm_u32 ?_ | refine sm_u64 ?_ | refine sm_num ?_ | refine sm_set ?_ | refine sm_time ?_ | refine sm_if (sm_u32) ?_ | refine sm_if (sm_u64) ?_ | refine sm_if (sm_num) ?_ | refine sm_how ?_ | refine sm_bool ?_ | refine sm_row (by assumption) ?_)); exact Sm.le sm (by decide)))); intro v ha q; (try rw [q.1]); replace c := q.2; clear q) | ((with_reducible apply Cl.mono (oUpto c ?g0)); (case g0 => ((refine Sm.s9 ?_; (repeat (with_reducible first | refine sm_text (by assumption) ?_ | refine sm_u32 ?_ | refine sm_u64 ?_ | refine sm_num ?_ | refine sm_set ?_ | refine sm_time ?_ | refine sm_if (sm_u32) ?_ | refine sm_if (sm_u64) ?_ | refine sm_if (sm_num) ?_ | refine sm_how ?_ | refine sm_bool ?_ | refine sm_row (by assumption) ?_)); exact Sm.le sm (by decide)))); intro v ha q; (try rw [q.1]); replace c := q.2; clear q) | ((with_reducible apply Cl.mono (oTime c ?g0 ?g1 ?g2)); (case g0 => (assumption)); (case g1 => (assumption)); (case g2 => ((skip; (repeat (with_reducible first | refine sm_text (by assumption) ?_ | refine sm_u32 ?_ | refine sm_u64 ?_ | refine sm_num ?_ | refine sm_set ?_ | refine sm_time ?_ | refine sm_if (sm_u32) ?_ | refine sm_if (sm_u64) ?_ | refine sm_if (sm_num) ?_ | refine sm_how ?_ | refine sm_bool ?_ | refine sm_row (by assumption) ?_)); exact Sm.le sm (by decide)))); intro v ha q; (try rw [q.1]); replace c := q.2; clear q) | simp (disch := (first | (simp only [List.length_set, hl]; omega) | omega | rfl)) only [walkA, walkB, bne_self_eq_false, beq_self_eq_true, Option.map_some, Option.map_none, reduceIte, decide_true, decide_false, Int.reduceLT, Int.reduceLE, Int.reduceMul, Int.reduceAdd, Int.reduceSub, h0, h3, faO0, faS0, faS1, faS2, faS3, faS4, faS5, faS6, faS7, faS8, faS9, faS10, faS11, c.lr, c.ldB 0 k0, c.ldB 1 k1, c.ldB 2 k2, c.ldB 3 k3, c.ldI 4 k4, c.ld32 5 k5, c.ld32 6 k6, c.ld64 7 k7, c.ldI 8 k8, c.ldI 9 k9, c.ldT 10 k10 k11, c.ldT 12 k12 k13 , Int.reduceBEq, Int.reduceBNe, Int.reduceGT, Int.reduceGE, Nat.reduceAdd])
    rw [wIf_t hb]
    exact ⟨(by first | rfl | trivial), by simp [hl], (by first | trivial | ((simp (disch := (first | (simp only [List.length_set, hl]; omega) | omega | rfl)) only [sL, h0]))), (by first | trivial | ((simp (disch := (first | (simp only [List.length_set, hl]; omega) | omega | rfl)) only [sL, h3]))), c⟩
  · intro hb
    with_reducible refine Wp.skip ?_
    rw [wIf_f hb]
    exact ⟨(by first | rfl | trivial), by simp [hl], (by first | trivial | ((simp (disch := (first | (simp only [List.length_set, hl]; omega) | omega | rfl)) only [sL, h0]))), (by first | trivial | ((simp (disch := (first | (simp only [List.length_set, hl]; omega) | omega | rfl)) only [sL, h3]))), c⟩
  clear h0 h3 hl c
  clear env
  intro env h q
  obtain ⟨hl, h0, h3, c⟩ := q
  repeat' (first | (with_reducible refine Wp.st ?_; simp only [wS]) | with_reducible refine Wp.drawS (by decide +kernel) ?_ | (refine Wp.cond_true ?_ ?_; focus ((simp (disch := (first | (simp only [List.length_set, hl]; omega) | omega | rfl)) only [sL, aEval_tmp]); done)) | (refine Wp.cond_false ?_ ?_; focus ((simp (disch := (first | (simp only [List.length_set, hl]; omega) | omega | rfl)) only [sL, aEval_tmp]); done)) | ((with_reducible apply Cl.mono (oU32 c ?g0 ?g1)); (case g0 => (assumption)); (case g1 => ((refine Sm.s9 ?_; (repeat (with_reducible first | refine sm_text (by assumption) ?_ | refine sm_u32 ?_ | refine sm_u64 ?_ | refine sm_num ?_ | refine sm_set ?_ | refine sm_time ?_ | refine sm_if (sm_u32) ?_ | refine sm_if (sm_u64) ?_ | refine sm_if (sm_num) ?_ | refine sm_how ?_ | refine sm_bool ?_ | refine sm_row (by assumption) ?_)); exact Sm.le sm (by decide)))); intro v ha q; (try rw [q.1]); replace c := q.2; clear q) | ((with_reducible apply Cl.mono (oU64 c ?g0)); (case g0 => ((refine Sm.s9 ?_; (repeat (with_reducible first | refine sm_text (by assumption) ?_ | refine sm_u32 ?_ | refine sm_u64 ?_ | refine sm_num ?_ | refine sm_set ?_ | refine sm_time ?_ | refine sm_if (sm_u32) ?_ | refine sm_if (sm_u64) ?_ | refine sm_if (sm_num) ?_ | refine sm_how ?_ | refine sm_bool ?_ | refine sm_row (by assumption) ?_)); exact Sm.le sm (by decide)))); intro v ha q; (try rw [q.1]); replace c := q.2; clear q) | ((with_reducible apply Cl.mono (oBool c ?g0)); (case g0 => ((refine Sm.s9 ?_; (repeat (with_reducible first | refine sm_text (by assumption) ?_ | refine sm_u32 ?_ | refine sm_u64 ?_ | refine sm_num ?_ | refine sm_set ?_ | refine sm_time ?_ | refine sm_if (sm_u32) ?_ | refine sm_if (sm_u64) ?_ | refine sm_if (sm_num) ?_ | refine sm_how ?_ | refine sm_bool ?_ | refine sm_row (by assumption) ?_)); exact Sm.le sm (by decide)))); intro v ha q; (try rw [q.1]); replace c := q.2; clear q) | ((with_reducible apply Cl.mono (oNum c ?g0)); (case g0 => ((refine Sm.s9 ?_; (repeat (with_reducible first | refine sm_text (by assumption) ?_ | refine sm_u32 ?_ | refine sm_u64 ?_ | refine sm_num ?_ | refine sm_set ?_ | refine sm_time ?_ | refine sm_if (sm_u32) ?_ | refine sm_if (sm_u64) ?_ | refine sm_if (sm_num) ?_ | refine sm_how ?_ | refine sm_bool ?_ | refine sm_row (by assumption) ?_)); exact Sm.le sm (by decide)))); intro v ha q; (try rw [q.1]); replace c := q.2; clear q) | ((with_reducible apply Cl.mono (oUpto c ?g0)); (case g0 => ((refine Sm.s9 ?_; (repeat (with_reducible first | refine sm_text (by assumption) ?_ | refine sm_u32 ?_ | refine sm_u64 ?_ | refine sm_num ?_ | refine sm_set ?_ | refine sm_time ?_ | refine sm_if (sm_u32) ?_ | refine sm_if (sm_u64) ?_ | refine sm_if (sm_num) ?_ | refine sm_how ?_ | refine sm_bool ?_ | refine sm_row (by assumption) ?_)); exact Sm.le sm (by decide)))); intro v ha q; (try rw [q.1]); replace c := q.2; clear q) | ((with_reducible apply Cl.mono (oTime c ?g0 ?g1 ?g2)); (case g0 => (assumption)); (case g1 => (assumption)); (case g2 => ((skip; (repeat (with_reducible first | refine sm_text (by assumption) ?_ | refine sm_u32 ?_ | refine sm_u64 ?_ | refine sm_num ?_ | refine sm_set ?_ | refine sm_time ?_ | refine sm_if (sm_u32) ?_ | refine sm_if (sm_u64) ?_ | refine sm_if (sm_num) ?_ | refine sm_how ?_ | refine sm_bool ?_ | refine sm_row (by assumption) ?_)); exact Sm.le sm (by decide)))); intro v ha q; (try rw [q.1]); replace c := q.2; clear q) | simp (disch := (first | (simp only [List.length_set, hl]; omega) | omega | rfl)) only [walkA, walkB, bne_self_eq_false, beq_self_eq_true, Option.map_some, Option.map_none, reduceIte, decide_true, decide_false, Int.reduceLT, Int.reduceLE, Int.reduceMul, Int.reduceAdd, Int.reduceSub, h0, h3, faO0, faS0, faS1, faS2, faS3, faS4, faS5, faS6, faS7, faS8, faS9, faS10, faS11, c.lr, c.ldB 0 k0, c.ldB 1 k1, c.ldB 2 k2, c.ldB 3 k3, c.ldI 4 k4, c.ld32 5 k5, c.ld32 6 k6, c.ld64 7 k7, c.ldI 8 k8, c.ldI 9 k9, c.ldT 10 k10 k11, c.ldT 12 k12 k13 , Int.reduceBEq, Int.reduceBNe, Int.reduceGT, Int.reduceGE, Nat.reduceAdd])
  refine Wp.cond_join (S := fun e hh => e.length = 87 ∧ sl e 0 = pt ko 0 ∧ sl e 3 = pt kt 0 ∧ OW Z H0 hh ko kw (wIf hg (wU32 gid) (wIf hu (wU32 uid) (wIf hm (wNum 0 4294967295 mode) x))) ((kt, cs, 28) :: L)) (by ((simp (disch := (first | (simp only [List.length_set, hl]; omega) | omega | rfl)) only [sL, aEval_tmp]); rfl)) ?_ ?_ ?_
  · intro hb
    repeat' (first | (with_reducible refine Wp.st ?_; simp only [wS]) | with_reducible refine Wp.drawS (by decide +kernel) ?_ | (refine Wp.cond_true ?_ ?_; focus ((simp (disch := (first | (simp only [List.length_set, hl]; omega) | omega | rfl)) only [sL, aEval_tmp]); done)) | (refine Wp.cond_false ?_ ?_; focus ((simp (disch := (first | (simp only [List.length_set, hl]; omega) | omega | rfl)) only [sL, aEval_tmp]); done)) | ((with_reducible apply Cl.mono (oU32 c ?g0 ?g1)); (case g0 => (assumption)); (case g1 => ((refine Sm.s9 ?_; (repeat (with_reducible first | refine sm_text (by assumption) ?_ | refine sm_u32 ?_ | refine sm_u64 ?_ | refine sm_num ?_ | refine sm_set ?_ | refine sm_time ?_ | refine sm_if (sm_u32) ?_ | refine sm_if (sm_u64) ?_ | refine sm_if (sm_num) ?_ | refine sm_how ?_ | refine sm_bool ?_ | refine sm_row (by assumption) ?_)); exact Sm.le sm (by decide)))); intro v ha q; (try rw [q.1]); replace c := q.2; clear q) | ((with_reducible apply Cl.mono (oU64 c ?g0)); (case g0 => ((refine Sm.s9 ?_; (repeat (with_reducible first | refine sm_text (by assumption) ?_ | refine sm_u32 ?_ | refine sm_u64 ?_ | refine sm_num ?_ | refine sm_set ?_ | refine sm_time ?_ | refine sm_if (sm_u32) ?_ | refine sm_if (sm_u64) ?_ | refine sm_if (sm_num) ?_ | refine sm_how ?_ | refine sm_bool ?_ | refine sm_row (by assumption) ?_)); exact Sm.le sm (by decide)))); intro v ha q; (try rw [q.1]); replace c := q.2; clear q) | ((with_reducible apply Cl.mono (oBool c ?g0)); (case g0 => ((refine Sm.s9 ?_; (repeat (with_reducible first | refine sm_text (by assumption) ?_ | refine sm_u32 ?_ | refine sm_u64 ?_ | refine sm_num ?_ | refine sm_set ?_ | refine sm_time ?_ | refine sm_if (sm_u32) ?_ | refine sm_if (sm_u64) ?_ | refine sm_if (sm_num) ?_ | refine sm_how ?_ | refine sm_bool ?_ | refine sm_row (by assumption) ?_)); exact Sm.le sm (by decide)))); intro v ha q; (try rw [q.1]); replace c := q.2; clear q) | ((with_reducible apply Cl.mono (oNum c ?g0)); (case g0 => ((refine Sm.s9 ?_; (repeat (with_reducible first | refine sm_text (by assumption) ?_ | refine sm_u32 ?_ | refine sm_u64 ?_ | refine sm_num ?_ | refine sm_set ?_ | refine sm_time ?_ | refine sm_if (sm_u32) ?_ | refine sm_if (sm_u64) ?_ | refine sm_if (sm_num) ?_ | refine sm_how ?_ | refine sm_bool ?_ | refine sm_row (by assumption) ?_)); exact Sm.le sm (by decide)))); intro v ha q; (try rw [q.1]); replace c := q.2; clear q) | ((with_reducible apply Cl.mono (oUpto c ?g0)); (case g0 => ((refine Sm.s9 ?_; (repeat (with_reducible first | refine sm_text (by assumption) ?_ | refine sm_u32 ?_ | refine sm_u64 ?_ | refine sm_num ?_ | refine sm_set ?_ | refine sm_time ?_ | refine sm_if (sm_u32) ?_ | refine sm_if (sm_u64) ?_ | refine sm_if (sm_num) ?_ | refine sm_how ?_ | refine sm_bool ?_ | refine sm_row (by assumption) ?_)); exact Sm.le sm (by decide)))); intro v ha q; (try rw [q.1]); replace c := q.2; clear q) | ((with_reducible apply Cl.mono (oTime c ?g0 ?g1 ?g2)); (case g0 => (assumption)); (case g1 => (assumption)); (case g2 => ((skip; (repeat (with_reducible first | refine sm_text (by assumption) ?_ | refine sm_u32 ?_ | refine sm_u64 ?_ | refine sm_num ?_ | refine sm_set ?_ | refine sm_time ?_ | refine sm_if (sm_u32) ?_ | refine sm_if (sm_u64) ?_ | refine sm_if (sm_num) ?_ | refine sm_how ?_ | refine sm_bool ?_ | refine sm_row (by assumption) ?_)); exact Sm.le sm (by decide)))); intro v ha q; (try rw [q.1]); replace c := q.2; clear q) | simp (disch := (first | (simp only [List.length_set, hl]; omega) | omega | rfl)) only [walkA, walkB, bne_self_eq_false, beq_self_eq_true, Option.map_some, Option.map_none, reduceIte, decide_true, decide_false, Int.reduceLT, Int.reduceLE, Int.reduceMul, Int.reduceAdd, Int.reduceSub, h0, h3, faO0, faS0, faS1, faS2, faS3, faS4, faS5, faS6, faS7, faS8, faS9, faS10, faS11, c.lr, c.ldB 0 k0, c.ldB 1 k1, c.ldB 2 k2, c.ldB 3 k3, c.ldI 4 k4, c.ld32 5 k5, c.ld32 6 k6, c.ld64 7 k7, c.ldI 8 k8, c.ldI 9 k9, c.ldT 10 k10 k11, c.ldT 12 k12 k13 , Int.reduceBEq, Int.reduceBNe, Int.reduceGT, Int.reduceGE, Nat.reduceAdd])
    rw [wIf_t hb]
    exact ⟨(by first | rfl | trivial), by simp [hl], (by first | trivial | ((simp (disch := (first | (simp only [List.length_set, hl]; omega) | omega | rfl)) only [sL, h0]))), (by first | trivial | ((simp (disch := (first | (simp only [List.length_set, hl]; omega) | omega | rfl)) only [sL, h3]))), c⟩
  · intro hb
    with_reducible refine Wp.skip ?_
    rw [wIf_f hb]
    exact ⟨(by first | rfl | trivial), by simp [hl], (by first | trivial | ((simp (disch := (first | (simp only [List.length_set, hl]; omega) | omega | rfl)) only [sL, h0]))), (by first | trivial | ((simp (disch := (first | (simp only [List.length_set, hl]; omega) | omega | rfl)) only [sL, h3]))), c⟩
  clear h0 h3 hl c
  clear env
  intro env h q
  obtain ⟨hl, h0, h3, c⟩ := q
  repeat' (first | (with_reducible refine Wp.st ?_; simp only [wS]) | with_reducible refine Wp.drawS (by decide +kernel) ?_ | (refine Wp.cond_true ?_ ?_; focus ((simp (disch := (first | (simp only [List.length_set, hl]; omega) | omega | rfl)) only [sL, aEval_tmp]); done)) | (refine Wp.cond_false ?_ ?_; focus ((simp (disch := (first | (simp only [List.length_set, hl]; omega) | omega | rfl)) only [sL, aEval_tmp]); done)) | ((with_reducible apply Cl.mono (oU32 c ?g0 ?g1)); (case g0 => (assumption)); (case g1 => ((refine Sm.s9 ?_; (repeat (with_reducible first | refine sm_text (by assumption) ?_ | refine sm_u32 ?_ | refine sm_u64 ?_ | refine sm_num ?_ | refine sm_set ?_ | refine sm_time ?_ | refine sm_if (sm_u32) ?_ | refine sm_if (sm_u64) ?_ | refine sm_if (sm_num) ?_ | refine sm_how ?_ | refine sm_bool ?_ | refine sm_row (by assumption) ?_)); exact Sm.le sm (by decide)))); intro v ha q; (try rw [q.1]); replace c := q.2; clear q) | ((with_reducible apply Cl.mono (oU64 c ?g0)); (case g0 => ((refine Sm.s9 ?_; (repeat (with_reducible first | refine sm_text (by assumption) ?_ | refine sm_u32 ?_ | refine sm_u64 ?_ | refine sm_num ?_ | refine sm_set ?_ | refine sm_time ?_ | refine sm_if (sm_u32) ?_ | refine sm_if (sm_u64) ?_ | refine sm_if (sm_num) ?_ | refine sm_how ?_ | refine sm_bool ?_ | refine sm_row (by assumption) ?_)); exact Sm.le sm (by decide)))); intro v ha q; (try rw [q.1]); replace c := q.2; clear q) | ((with_reducible apply Cl.mono (oBool c ?g0)); (case g0 => ((refine Sm.s9 ?_; (repeat (with_reducible first | refine sm_text (by assumption) ?_ | refine sm_u32 ?_ | refine sm_u64 ?_ | refine sm_num ?_ | refine sm_set ?_ | refine sm_time ?_ | refine sm_if (sm_u32) ?_ | refine sm_if (sm_u64) ?_ | refine sm_if (sm_num) ?_ | refine sm_how ?_ | refine sm_bool ?_ | refine sm_row (by assumption) ?_)); exact Sm.le sm (by decide)))); intro v ha q; (try rw [q.1]); replace c := q.2; clear q) | ((with_reducible apply Cl.mono (oNum c ?g0)); (case g0 => ((refine Sm.s9 ?_; (repeat (with_reducible first | refine sm_text (by assumption) ?_ | refine sm_u32 ?_ | refine sm_u64 ?_ | refine sm_num ?_ | refine sm_set ?_ | refine sm_time ?_ | refine sm_if (sm_u32) ?_ | refine sm_if (sm_u64) ?_ | refine sm_if (sm_num) ?_ | refine sm_how ?_ | refine sm_bool ?_ | refine sm_row (by assumption) ?_)); exact Sm.le sm (by decide)))); intro v ha q; (try rw [q.1]); replace c := q.2; clear q) | ((with_reducible apply Cl.mono (oUpto c ?g0)); (case g0 => ((refine Sm.s9 ?_; (repeat (with_reducible first | refine sm_text (by assumption) ?_ | refine sm_u32 ?_ | refine sm_u64 ?_ | refine sm_num ?_ | refine sm_set ?_ | refine sm_time ?_ | refine sm_if (sm_u32) ?_ | refine sm_if (sm_u64) ?_ | refine sm_if (sm_num) ?_ | refine sm_how ?_ | refine sm_bool ?_ | refine sm_row (by assumption) ?_)); exact Sm.le sm (by decide)))); intro v ha q; (try rw [q.1]); replace c := q.2; clear q) | ((with_reducible apply Cl.mono (oTime c ?g0 ?g1 ?g2)); (case g0 => (assumption)); (case g1 => (assumption)); (case g2 => ((skip; (repeat (with_reducible first | refine sm_text (by assumption) ?_ | refine sm_u32 ?_ | refine sm_u64 ?_ | refine sm_num ?_ | refine sm_set ?_ | refine sm_time ?_ | refine sm_if (sm_u32) ?_ | refine sm_if (sm_u64) ?_ | refine sm_if (sm_num) ?_ | refine sm_how ?_ | refine sm_bool ?_ | refine sm_row (by assumption) ?_)); exact Sm.le sm (by decide)))); intro v ha q; (try rw [q.1]); replace c := q.2; clear q) | simp (disch := (first | (simp only [List.length_set, hl]; omega) | omega | rfl)) only [walkA, walkB, bne_self_eq_false, beq_self_eq_true, Option.map_some, Option.map_none, reduceIte, decide_true, decide_false, Int.reduceLT, Int.reduceLE, Int.reduceMul, Int.reduceAdd, Int.reduceSub, h0, h3, faO0, faS0, faS1, faS2, faS3, faS4, faS5, faS6, faS7, faS8, faS9, faS10, faS11, c.lr, c.ldB 0 k0, c.ldB 1 k1, c.ldB 2 k2, c.ldB 3 k3, c.ldI 4 k4, c.ld32 5 k5, c.ld32 6 k6, c.ld64 7 k7, c.ldI 8 k8, c.ldI 9 k9, c.ldT 10 k10 k11, c.ldT 12 k12 k13 , Int.reduceBEq, Int.reduceBNe, Int.reduceGT, Int.reduceGE, Nat.reduceAdd])
  refine Wp.cond_join (S := fun e hh => e.length = 87 ∧ sl e 0 = pt ko 0 ∧ sl e 3 = pt kt 0 ∧ OW Z H0 hh ko kw (wIf hz (wU64 size) (wIf hg (wU32 gid) (wIf hu (wU32 uid) (wIf hm (wNum 0 4294967295 mode) x)))) ((kt, cs, 28) :: L)) (by ((simp (disch := (first | (simp only [List.length_set, hl]; omega) | omega | rfl)) only [sL, aEval_tmp]); rfl)) ?_ ?_ ?_
  · intro hb
    repeat' (first | (with_reducible refine Wp.st ?_; simp only [wS]) | with_reducible refine Wp.drawS (by decide +kernel) ?_ | (refine Wp.cond_true ?_ ?_; focus ((simp (disch := (first | (simp only [List.length_set, hl]; omega) | omega | rfl)) only [sL, aEval_tmp]); done)) | (refine Wp.cond_false ?_ ?_; focus ((simp (disch := (first | (simp only [List.length_set, hl]; omega) | omega | rfl)) only [sL, aEval_tmp]); done)) | ((with_reducible apply Cl.mono (oU32 c ?g0 ?g1)); (case g0 => (assumption)); (case g1 => ((refine Sm.s9 ?_; (repeat (with_reducible first | refine sm_text (by assumption) ?_ | refine sm_u32 ?_ | refine sm_u64 ?_ | refine sm_num ?_ | refine sm_set ?_ | refine sm_time ?_ | refine sm_if (sm_u32) ?_ | refine sm_if (sm_u64) ?_ | refine sm_if (sm_num) ?_ | refine sm_how ?_ | refine sm_bool ?_ | refine sm_row (by assumption) ?_)); exact Sm.le sm (by decide)))); intro v ha q; (try rw [q.1]); replace c := q.2; clear q) | ((with_reducible apply Cl.mono (oU64 c ?g0)); (case g0 => ((refine Sm.s9 ?_; (repeat (with_reducible first | refine sm_text (by assumption) ?_ | refine sm_u32 ?_ | refine sm_u64 ?_ | refine sm_num ?_ | refine sm_set ?_ | refine sm_time ?_ | refine sm_if (sm_u32) ?_ | refine sm_if (sm_u64) ?_ | refine sm_if (sm_num) ?_ | refine sm_how ?_ | refine sm_bool ?_ | refine sm_row (by assumption) ?_)); exact Sm.le sm (by decide)))); intro v ha q; (try rw [q.1]); replace c := q.2; clear q) | ((with_reducible apply Cl.mono (oBool c ?g0)); (case g0 => ((refine Sm.s9 ?_; (repeat (with_reducible first | refine sm_text (by assumption) ?_ | refine sm_u32 ?_ | refine sm_u64 ?_ | refine sm_num ?_ | refine sm_set ?_ | refine sm_time ?_ | refine sm_if (sm_u32) ?_ | refine sm_if (sm_u64) ?_ | refine sm_if (sm_num) ?_ | refine sm_how ?_ | refine sm_bool ?_ | refine sm_row (by assumption) ?_)); exact Sm.le sm (by decide)))); intro v ha q; (try rw [q.1]); replace c := q.2; clear q) | ((with_reducible apply Cl.mono (oNum c ?g0)); (case g0 => ((refine Sm.s9 ?_; (repeat (with_reducible first | refine sm_text (by assumption) ?_ | refine sm_u32 ?_ | refine sm_u64 ?_ | refine sm_num ?_ | refine sm_set ?_ | refine sm_time ?_ | refine sm_if (sm_u32) ?_ | refine sm_if (sm_u64) ?_ | refine sm_if (sm_num) ?_ | refine sm_how ?_ | refine sm_bool ?_ | refine sm_row (by assumption) ?_)); exact Sm.le sm (by decide)))); intro v ha q; (try rw [q.1]); replace c := q.2; clear q) | ((with_reducible apply Cl.mono (oUpto c ?g0)); (case g0 => ((refine Sm.s9 ?_; (repeat (with_reducible first | refine sm_text (by assumption) ?_ | refine sm_u32 ?_ | refine sm_u64 ?_ | refine sm_num ?_ | refine sm_set ?_ | refine sm_time ?_ | refine sm_if (sm_u32) ?_ | refine sm_if (sm_u64) ?_ | refine sm_if (sm_num) ?_ | refine sm_how ?_ | refine sm_bool ?_ | refine sm_row (by assumption) ?_)); exact Sm.le sm (by decide)))); intro v ha q; (try rw [q.1]); replace c := q.2; clear q) | ((with_reducible apply Cl.mono (oTime c ?g0 ?g1 ?g2)); (case g0 => (assumption)); (case g1 => (assumption)); (case g2 => ((skip; (repeat (with_reducible first | refine sm_text (by assumption) ?_ | refine sm_u32 ?_ | refine sm_u64 ?_ | refine sm_num ?_ | refine sm_set ?_ | refine sm_time ?_ | refine sm_if (sm_u32) ?_ | refine sm_if (sm_u64) ?_ | refine sm_if (sm_num) ?_ | refine sm_how ?_ | refine sm_bool ?_ | refine sm_row (by assumption) ?_)); exact Sm.le sm (by decide)))); intro v ha q; (try rw [q.1]); replace c := q.2; clear q) | simp (disch := (first | (simp only [List.length_set, hl]; omega) | omega | rfl)) only [walkA, walkB, bne_self_eq_false, beq_self_eq_true, Option.map_some, Option.map_none, reduceIte, decide_true, decide_false, Int.reduceLT, Int.reduceLE, Int.reduceMul, Int.reduceAdd, Int.reduceSub, h0, h3, faO0, faS0, faS1, faS2, faS3, faS4, faS5, faS6, faS7, faS8, faS9, faS10, faS11, c.lr, c.ldB 0 k0, c.ldB 1 k1, c.ldB 2 k2, c.ldB 3 k3, c.ldI 4 k4, c.ld32 5 k5, c.ld32 6 k6, c.ld64 7 k7, c.ldI 8 k8, c.ldI 9 k9, c.ldT 10 k10 k11, c.ldT 12 k12 k13 , Int.reduceBEq, Int.reduceBNe, Int.reduceGT, Int.reduceGE, Nat.reduceAdd])
    rw [wIf_t hb]
    exact ⟨(by first | rfl | trivial), by simp [hl], (by first | trivial | ((simp (disch := (first | (simp only [List.length_set, hl]; omega) | omega | rfl)) only [sL, h0]))), (by first | trivial | ((simp (disch := (first | (simp only [List.length_set, hl]; omega) | omega | rfl)) only [sL, h3]))), c⟩
  · intro hb
    with_reducible refine Wp.skip ?_
    rw [wIf_f hb]
    exact ⟨(by first | rfl | trivial), by simp [hl], (by first | trivial | ((simp (disch := (first | (simp only [List.length_set, hl]; omega) | omega | rfl)) only [sL, h0]))), (by first | trivial | ((simp (disch := (first | (simp only [List.length_set, hl]; omega) | omega | rfl)) only [sL, h3]))), c⟩
  clear h0 h3 hl c
  clear env
  intro env h q
  obtain ⟨hl, h0, h3, c⟩ := q
  repeat' (first | (with_reducible refine Wp.st ?_; simp only [wS]) | with_reducible refine Wp.drawS (by decide +kernel) ?_ | (refine Wp.cond_true ?_ ?_; focus ((simp (disch := (first | (simp only [List.length_set, hl]; omega) | omega | rfl)) only [sL, aEval_tmp]); done)) | (refine Wp.cond_false ?_ ?_; focus ((simp (disch := (first | (simp only [List.length_set, hl]; omega) | omega | rfl)) only [sL, aEval_tmp]); done)) | ((with_reducible apply Cl.mono (oU32 c ?g0 ?g1)); (case g0 => (assumption)); (case g1 => ((refine Sm.s9 ?_; (repeat (with_reducible first | refine sm_text (by assumption) ?_ | refine sm_u32 ?_ | refine sm_u64 ?_ | refine sm_num ?_ | refine sm_set ?_ | refine sm_time ?_ | refine sm_if (sm_u32) ?_ | refine sm_if (sm_u64) ?_ | refine sm_if (sm_num) ?_ | refine sm_how ?_ | refine sm_bool ?_ | refine sm_row (by assumption) ?_)); exact Sm.le sm (by decide)))); intro v ha q; (try rw [q.1]); replace c := q.2; clear q) | ((with_reducible apply Cl.mono (oU64 c ?g0)); (case g0 => ((refine Sm.s9 ?_; (repeat (with_reducible first | refine sm_text (by assumption) ?_ | refine sm_u32 ?_ | refine sm_u64 ?_ | refine sm_num ?_ | refine sm_set ?_ | refine sm_time ?_ | refine sm_if (sm_u32) ?_ | refine sm_if (sm_u64) ?_ | refine sm_if (sm_num) ?_ | refine sm_how ?_ | refine sm_bool ?_ | refine sm_row (by assumption) ?_)); exact Sm.le sm (by decide)))); intro v ha q; (try rw [q.1]); replace c := q.2; clear q) | ((with_reducible apply Cl.mono (oBool c ?g0)); (case g0 => ((refine Sm.s9 ?_; (repeat (with_reducible first | refine sm_text (by assumption) ?_ | refine sm_u32 ?_ | refine sm_u64 ?_ | refine sm_num ?_ | refine sm_set ?_ | refine sm_time ?_ | refine sm_if (sm_u32) ?_ | refine sm_if (sm_u64) ?_ | refine sm_if (sm_num) ?_ | refine sm_how ?_ | refine sm_bool ?_ | refine sm_row (by assumption) ?_)); exact Sm.le sm (by decide)))); intro v ha q; (try rw [q.1]); replace c := q.2; clear q) | ((with_reducible apply Cl.mono (oNum c ?g0)); (case g0 => ((refine Sm.s9 ?_; (repeat (with_reducible first | refine sm_text (by assumption) ?_ | refine sm_u32 ?_ | refine sm_u64 ?_ | refine sm_num ?_ | refine sm_set ?_ | refine sm_time ?_ | refine sm_if (sm_u32) ?_ | refine sm_if (sm_u64) ?_ | refine sm_if (sm_num) ?_ | refine sm_how ?_ | refine sm_bool ?_ | refine sm_row (by assumption) ?_)); exact Sm.le sm (by decide)))); intro v ha q; (try rw [q.1]); replace c := q.2; clear q) | ((with_reducible apply Cl.mono (oUpto c ?g0)); (case g0 => ((refine Sm.s9 ?_; (repeat (with_reducible first | refine sm_text (by assumption) ?_ | refine sm_u32 ?_ | refine sm_u64 ?_ | refine sm_num ?_ | refine sm_set ?_ | refine sm_time ?_ | refine sm_if (sm_u32) ?_ | refine sm_if (sm_u64) ?_ | refine sm_if (sm_num) ?_ | refine sm_how ?_ | refine sm_bool ?_ | refine sm_row (by assumption) ?_)); exact Sm.le sm (by decide)))); intro v ha q; (try rw [q.1]); replace c := q.2; clear q) | ((with_reducible apply Cl.mono (oTime c ?g0 ?g1 ?g2)); (case g0 => (assumption)); (case g1 => (assumption)); (case g2 => ((skip; (repeat (with_reducible first | refine sm_text (by assumption) ?_ | refine sm_u32 ?_ | refine sm_u64 ?_ | refine sm_num ?_ | refine sm_set ?_ | refine sm_time ?_ | refine sm_if (sm_u32) ?_ | refine sm_if (sm_u64) ?_ | refine sm_if (sm_num) ?_ | refine sm_how ?_ | refine sm_bool ?_ | refine sm_row (by assumption) ?_)); exact Sm.le sm (by decide)))); intro v ha q; (try rw [q.1]); replace c := q.2; clear q) | simp (disch := (first | (simp only [List.length_set, hl]; omega) | omega | rfl)) only [walkA, walkB, bne_self_eq_false, beq_self_eq_true, Option.map_some, Option.map_none, reduceIte, decide_true, decide_false, Int.reduceLT, Int.reduceLE, Int.reduceMul, Int.reduceAdd, Int.reduceSub, h0, h3, faO0, faS0, faS1, faS2, faS3, faS4, faS5, faS6, faS7, faS8, faS9, faS10, faS11, c.lr, c.ldB 0 k0, c.ldB 1 k1, c.ldB 2 k2, c.ldB 3 k3, c.ldI 4 k4, c.ld32 5 k5, c.ld32 6 k6, c.ld64 7 k7, c.ldI 8 k8, c.ldI 9 k9, c.ldT 10 k10 k11, c.ldT 12 k12 k13 , Int.reduceBEq, Int.reduceBNe, Int.reduceGT, Int.reduceGE, Nat.reduceAdd])
  refine Wp.cond_join (S := fun e hh => e.length = 87 ∧ sl e 0 = pt ko 0 ∧ sl e 3 = pt kt 0 ∧ OW Z H0 hh ko kw (wHow ah a1 a2 (wIf hz (wU64 size) (wIf hg (wU32 gid) (wIf hu (wU32 uid) (wIf hm (wNum 0 4294967295 mode) x))))) ((kt, cs, 28) :: L)) (by ((simp (disch := (first | (simp only [List.length_set, hl]; omega) | omega | rfl)) only [sL, aEval_tmp]); rfl)) ?_ ?_ ?_
  · intro hb
    simp only [beq_iff_eq, beq_eq_false_iff_ne] at hb
    repeat' (first | (with_reducible refine Wp.st ?_; simp only [wS]) | with_reducible refine Wp.drawS (by decide +kernel) ?_ | (refine Wp.cond_true ?_ ?_; focus ((simp (disch := (first | (simp only [List.length_set, hl]; omega) | omega | rfl)) only [sL, aEval_tmp]); done)) | (refine Wp.cond_false ?_ ?_; focus ((simp (disch := (first | (simp only [List.length_set, hl]; omega) | omega | rfl)) only [sL, aEval_tmp]); done)) | ((with_reducible apply Cl.mono (oU32 c ?g0 ?g1)); (case g0 => (assumption)); (case g1 => ((refine Sm.s9 ?_; (repeat (with_reducible first | refine sm_text (by assumption) ?_ | refine sm_u32 ?_ | refine sm_u64 ?_ | refine sm_num ?_ | refine sm_set ?_ | refine sm_time ?_ | refine sm_if (sm_u32) ?_ | refine sm_if (sm_u64) ?_ | refine sm_if (sm_num) ?_ | refine sm_how ?_ | refine sm_bool ?_ | refine sm_row (by assumption) ?_)); exact Sm.le sm (by decide)))); intro v ha q; (try rw [q.1]); replace c := q.2; clear q) | ((with_reducible apply Cl.mono (oU64 c ?g0)); (case g0 => ((refine Sm.s9 ?_; (repeat (with_reducible first | refine sm_text (by assumption) ?_ | refine sm_u32 ?_ | refine sm_u64 ?_ | refine sm_num ?_ | refine sm_set ?_ | refine sm_time ?_ | refine sm_if (sm_u32) ?_ | refine sm_if (sm_u64) ?_ | refine sm_if (sm_num) ?_ | refine sm_how ?_ | refine sm_bool ?_ | refine sm_row (by assumption) ?_)); exact Sm.le sm (by decide)))); intro v ha q; (try rw [q.1]); replace c := q.2; clear q) | ((with_reducible apply Cl.mono (oBool c ?g0)); (case g0 => ((refine Sm.s9 ?_; (repeat (with_reducible first | refine sm_text (by assumption) ?_ | refine sm_u32 ?_ | refine sm_u64 ?_ | refine sm_num ?_ | refine sm_set ?_ | refine sm_time ?_ | refine sm_if (sm_u32) ?_ | refine sm_if (sm_u64) ?_ | refine sm_if (sm_num) ?_ | refine sm_how ?_ | refine sm_bool ?_ | refine sm_row (by assumption) ?_)); exact Sm.le sm (by decide)))); intro v ha q; (try rw [q.1]); replace c := q.2; clear q) | ((with_reducible apply Cl.mono (oNum c ?g0)); (case g0 => ((refine Sm.s9 ?_; (repeat (with_reducible first | refine sm_text (by assumption) ?_ | refine sm_u32 ?_ | refine sm_u64 ?_ | refine sm_num ?_ | refine sm_set ?_ | refine sm_time ?_ | refine sm_if (sm_u32) ?_ | refine sm_if (sm_u64) ?_ | refine sm_if (sm_num) ?_ | refine sm_how ?_ | refine sm_bool ?_ | refine sm_row (by assumption) ?_)); exact Sm.le sm (by decide)))); intro v ha q; (try rw [q.1]); replace c := q.2; clear q) | ((with_reducible apply Cl.mono (oUpto c ?g0)); (case g0 => ((refine Sm.s9 ?_; (repeat (with_reducible first | refine sm_text (by assumption) ?_ | refine sm_u32 ?_ | refine sm_u64 ?_ | refine sm_num ?_ | refine sm_set ?_ | refine sm_time ?_ | refine sm_if (sm_u32) ?_ | refine sm_if (sm_u64) ?_ | refine sm_if (sm_num) ?_ | refine sm_how ?_ | refine sm_bool ?_ | refine sm_row (by assumption) ?_)); exact Sm.le sm (by decide)))); intro v ha q; (try rw [q.1]); replace c := q.2; clear q) | ((with_reducible apply Cl.mono (oTime c ?g0 ?g1 ?g2)); (case g0 => (assumption)); (case g1 => (assumption)); (case g2 => ((skip; (repeat (with_reducible first | refine sm_text (by assumption) ?_ | refine sm_u32 ?_ | refine sm_u64 ?_ | refine sm_num ?_ | refine sm_set ?_ | refine sm_time ?_ | refine sm_if (sm_u32) ?_ | refine sm_if (sm_u64) ?_ | refine sm_if (sm_num) ?_ | refine sm_how ?_ | refine sm_bool ?_ | refine sm_row (by assumption) ?_)); exact Sm.le sm (by decide)))); intro v ha q; (try rw [q.1]); replace c := q.2; clear q) | simp (disch := (first | (simp only [List.length_set, hl]; omega) | omega | rfl)) only [walkA, walkB, bne_self_eq_false, beq_self_eq_true, Option.map_some, Option.map_none, reduceIte, decide_true, decide_false, Int.reduceLT, Int.reduceLE, Int.reduceMul, Int.reduceAdd, Int.reduceSub, h0, h3, faO0, faS0, faS1, faS2, faS3, faS4, faS5, faS6, faS7, faS8, faS9, faS10, faS11, c.lr, c.ldB 0 k0, c.ldB 1 k1, c.ldB 2 k2, c.ldB 3 k3, c.ldI 4 k4, c.ld32 5 k5, c.ld32 6 k6, c.ld64 7 k7, c.ldI 8 k8, c.ldI 9 k9, c.ldT 10 k10 k11, c.ldT 12 k12 k13 , Int.reduceBEq, Int.reduceBNe, Int.reduceGT, Int.reduceGE, Nat.reduceAdd])
    rw [wHow_t hb]
    exact ⟨(by first | rfl | trivial), by simp [hl], (by first | trivial | ((simp (disch := (first | (simp only [List.length_set, hl]; omega) | omega | rfl)) only [sL, h0]))), (by first | trivial | ((simp (disch := (first | (simp only [List.length_set, hl]; omega) | omega | rfl)) only [sL, h3]))), c⟩
  · intro hb
    simp only [beq_iff_eq, beq_eq_false_iff_ne] at hb
    with_reducible refine Wp.skip ?_
    rw [wHow_f hb]
    exact ⟨(by first | rfl | trivial), by simp [hl], (by first | trivial | ((simp (disch := (first | (simp only [List.length_set, hl]; omega) | omega | rfl)) only [sL, h0]))), (by first | trivial | ((simp (disch := (first | (simp only [List.length_set, hl]; omega) | omega | rfl)) only [sL, h3]))), c⟩
  clear h0 h3 hl c
  clear env
  intro env h q
  obtain ⟨hl, h0, h3, c⟩ := q
  repeat' (first | (with_reducible refine Wp.st ?_; simp only [wS]) | with_reducible refine Wp.drawS (by decide +kernel) ?_ | (refine Wp.cond_true ?_ ?_; focus ((simp (disch := (first | (simp only [List.length_set, hl]; omega) | omega | rfl)) only [sL, aEval_tmp]); done)) | (refine Wp.cond_false ?_ ?_; focus ((simp (disch := (first | (simp only [List.length_set, hl]; omega) | omega | rfl)) only [sL, aEval_tmp]); done)) | ((with_reducible apply Cl.mono (oU32 c ?g0 ?g1)); (case g0 => (assumption)); (case g1 => ((refine Sm.s9 ?_; (repeat (with_reducible first | refine sm_text (by assumption) ?_ | refine sm_u32 ?_ | refine sm_u64 ?_ | refine sm_num ?_ | refine sm_set ?_ | refine sm_time ?_ | refine sm_if (sm_u32) ?_ | refine sm_if (sm_u64) ?_ | refine sm_if (sm_num) ?_ | refine sm_how ?_ | refine sm_bool ?_ | refine sm_row (by assumption) ?_)); exact Sm.le sm (by decide)))); intro v ha q; (try rw [q.1]); replace c := q.2; clear q) | ((with_reducible apply Cl.mono (oU64 c ?g0)); (case g0 => ((refine Sm.s9 ?_; (repeat (with_reducible first | refine sm_text (by assumption) ?_ | refine sm_u32 ?_ | refine sm_u64 ?_ | refine sm_num ?_ | refine sm_set ?_ | refine sm_time ?_ | refine sm_if (sm_u32) ?_ | refine sm_if (sm_u64) ?_ | refine sm_if (sm_num) ?_ | refine sm_how ?_ | refine sm_bool ?_ | refine sm_row (by assumption) ?_)); exact Sm.le sm (by decide)))); intro v ha q; (try rw [q.1]); replace c := q.2; clear q) | ((with_reducible apply Cl.mono (oBool c ?g0)); (case g0 => ((refine Sm.s9 ?_; (repeat (with_reducible first | refine sm_text (by assumption) ?_ | refine sm_u32 ?_ | refine sm_u64 ?_ | refine sm_num ?_ | refine sm_set ?_ | refine sm_time ?_ | refine sm_if (sm_u32) ?_ | refine sm_if (sm_u64) ?_ | refine sm_if (sm_num) ?_ | refine sm_how ?_ | refine sm_bool ?_ | refine sm_row (by assumption) ?_)); exact Sm.le sm (by decide)))); intro v ha q; (try rw [q.1]); replace c := q.2; clear q) | ((with_reducible apply Cl.mono (oNum c ?g0)); (case g0 => ((refine Sm.s9 ?_; (repeat (with_reducible first | refine sm_text (by assumption) ?_ | refine sm_u32 ?_ | refine sm_u64 ?_ | refine sm_num ?_ | refine sm_set ?_ | refine sm_time ?_ | refine sm_if (sm_u32) ?_ | refine sm_if (sm_u64) ?_ | refine sm_if (sm_num) ?_ | refine sm_how ?_ | refine sm_bool ?_ | refine sm_row (by assumption) ?_)); exact Sm.le sm (by decide)))); intro v ha q; (try rw [q.1]); replace c := q.2; clear q) | ((with_reducible apply Cl.mono (oUpto c ?g0)); (case g0 => ((refine Sm.s9 ?_; (repeat (with_reducible first | refine sm_text (by assumption) ?_ | refine sm_u32 ?_ | refine sm_u64 ?_ | refine sm_num ?_ | refine sm_set ?_ | refine sm_time ?_ | refine sm_if (sm_u32) ?_ | refine sm_if (sm_u64) ?_ | refine sm_if (sm_num) ?_ | refine sm_how ?_ | refine sm_bool ?_ | refine sm_row (by assumption) ?_)); exact Sm.le sm (by decide)))); intro v ha q; (try rw [q.1]); replace c := q.2; clear q) | ((with_reducible apply Cl.mono (oTime c ?g0 ?g1 ?g2)); (case g0 => (assumption)); (case g1 => (assumption)); (case g2 => ((skip; (repeat (with_reducible first | refine sm_text (by assumption) ?_ | refine sm_u32 ?_ | refine sm_u64 ?_ | refine sm_num ?_ | refine sm_set ?_ | refine sm_time ?_ | refine sm_if (sm_u32) ?_ | refine sm_if (sm_u64) ?_ | refine sm_if (sm_num) ?_ | refine sm_how ?_ | refine sm_bool ?_ | refine sm_row (by assumption) ?_)); exact Sm.le sm (by decide)))); intro v ha q; (try rw [q.1]); replace c := q.2; clear q) | simp (disch := (first | (simp only [List.length_set, hl]; omega) | omega | rfl)) only [walkA, walkB, bne_self_eq_false, beq_self_eq_true, Option.map_some, Option.map_none, reduceIte, decide_true, decide_false, Int.reduceLT, Int.reduceLE, Int.reduceMul, Int.reduceAdd, Int.reduceSub, h0, h3, faO0, faS0, faS1, faS2, faS3, faS4, faS5, faS6, faS7, faS8, faS9, faS10, faS11, c.lr, c.ldB 0 k0, c.ldB 1 k1, c.ldB 2 k2, c.ldB 3 k3, c.ldI 4 k4, c.ld32 5 k5, c.ld32 6 k6, c.ld64 7 k7, c.ldI 8 k8, c.ldI 9 k9, c.ldT 10 k10 k11, c.ldT 12 k12 k13 , Int.reduceBEq, Int.reduceBNe, Int.reduceGT, Int.reduceGE, Nat.reduceAdd])
  refine Wp.cond_last (S := fun e hh => e.length = 87 ∧ sl e 0 = pt ko 0 ∧ sl e 3 = pt kt 0 ∧ OW Z H0 hh ko kw (wHow mh m1 m2 (wHow ah a1 a2 (wIf hz (wU64 size) (wIf hg (wU32 gid) (wIf hu (wU32 uid) (wIf hm (wNum 0 4294967295 mode) x)))))) ((kt, cs, 28) :: L)) (by ((simp (disch := (first | (simp only [List.length_set, hl]; omega) | omega | rfl)) only [sL, aEval_tmp]); rfl)) ?_ ?_ ?_
  · intro hb
    simp only [beq_iff_eq, beq_eq_false_iff_ne] at hb
    repeat' (first | (with_reducible refine Wp.st ?_; simp only [wS]) | with_reducible refine Wp.drawS (by decide +kernel) ?_ | (refine Wp.cond_true ?_ ?_; focus ((simp (disch := (first | (simp only [List.length_set, hl]; omega) | omega | rfl)) only [sL, aEval_tmp]); done)) | (refine Wp.cond_false ?_ ?_; focus ((simp (disch := (first | (simp only [List.length_set, hl]; omega) | omega | rfl)) only [sL, aEval_tmp]); done)) | ((with_reducible apply Cl.mono (oU32 c ?g0 ?g1)); (case g0 => (assumption)); (case g1 => ((refine Sm.s9 ?_; (repeat (with_reducible first | refine sm_text (by assumption) ?_ | refine sm_u32 ?_ | refine sm_u64 ?_ | refine sm_num ?_ | refine sm_set ?_ | refine sm_time ?_ | refine sm_if (sm_u32) ?_ | refine sm_if (sm_u64) ?_ | refine sm_if (sm_num) ?_ | refine sm_how ?_ | refine sm_bool ?_ | refine sm_row (by assumption) ?_)); exact Sm.le sm (by decide)))); intro v ha q; (try rw [q.1]); replace c := q.2; clear q) | ((with_reducible apply Cl.mono (oU64 c ?g0)); (case g0 => ((refine Sm.s9 ?_; (repeat (with_reducible first | refine sm_text (by assumption) ?_ | refine sm_u32 ?_ | refine sm_u64 ?_ | refine sm_num ?_ | refine sm_set ?_ | refine sm_time ?_ | refine sm_if (sm_u32) ?_ | refine sm_if (sm_u64) ?_ | refine sm_if (sm_num) ?_ | refine sm_how ?_ | refine sm_bool ?_ | refine sm_row (by assumption) ?_)); exact Sm.le sm (by decide)))); intro v ha q; (try rw [q.1]); replace c := q.2; clear q) | ((with_reducible apply Cl.mono (oBool c ?g0)); (case g0 => ((refine Sm.s9 ?_; (repeat (with_reducible first | refine sm_text (by assumption) ?_ | refine sm_u32 ?_ | refine sm_u64 ?_ | refine sm_num ?_ | refine sm_set ?_ | refine sm_time ?_ | refine sm_if (sm_u32) ?_ | refine sm_if (sm_u64) ?_ | refine sm_if (sm_num) ?_ | refine sm_how ?_ | refine sm_bool ?_ | refine sm_row (by assumption) ?_)); exact Sm.le sm (by decide)))); intro v ha q; (try rw [q.1]); replace c := q.2; clear q) | ((with_reducible apply Cl.mono (oNum c ?g0)); (case g0 => ((refine Sm.s9 ?_; (repeat (with_reducible first | refine sm_text (by assumption) ?_ | refine sm_u32 ?_ | refine sm_u64 ?_ | refine sm_num ?_ | refine sm_set ?_ | refine sm_time ?_ | refine sm_if (sm_u32) ?_ | refine sm_if (sm_u64) ?_ | refine sm_if (sm_num) ?_ | refine sm_how ?_ | refine sm_bool ?_ | refine sm_row (by assumption) ?_)); exact Sm.le sm (by decide)))); intro v ha q; (try rw [q.1]); replace c := q.2; clear q) | ((with_reducible apply Cl.mono (oUpto c ?g0)); (case g0 => ((refine Sm.s9 ?_; (repeat (with_reducible first | refine sm_text (by assumption) ?_ | refine sm_u32 ?_ | refine sm_u64 ?_ | refine sm_num ?_ | refine sm_set ?_ | refine sm_time ?_ | refine sm_if (sm_u32) ?_ | refine sm_if (sm_u64) ?_ | refine sm_if (sm_num) ?_ | refine sm_how ?_ | refine sm_bool ?_ | refine sm_row (by assumption) ?_)); exact Sm.le sm (by decide)))); intro v ha q; (try rw [q.1]); replace c := q.2; clear q) | ((with_reducible apply Cl.mono (oTime c ?g0 ?g1 ?g2)); (case g0 => (assumption)); (case g1 => (assumption)); (case g2 => ((skip; (repeat (with_reducible first | refine sm_text (by assumption) ?_ | refine sm_u32 ?_ | refine sm_u64 ?_ | refine sm_num ?_ | refine sm_set ?_ | refine sm_time ?_ | refine sm_if (sm_u32) ?_ | refine sm_if (sm_u64) ?_ | refine sm_if (sm_num) ?_ | refine sm_how ?_ | refine sm_bool ?_ | refine sm_row (by assumption) ?_)); exact Sm.le sm (by decide)))); intro v ha q; (try rw [q.1]); replace c := q.2; clear q) | simp (disch := (first | (simp only [List.length_set, hl]; omega) | omega | rfl)) only [walkA, walkB, bne_self_eq_false, beq_self_eq_true, Option.map_some, Option.map_none, reduceIte, decide_true, decide_false, Int.reduceLT, Int.reduceLE, Int.reduceMul, Int.reduceAdd, Int.reduceSub, h0, h3, faO0, faS0, faS1, faS2, faS3, faS4, faS5, faS6, faS7, faS8, faS9, faS10, faS11, c.lr, c.ldB 0 k0, c.ldB 1 k1, c.ldB 2 k2, c.ldB 3 k3, c.ldI 4 k4, c.ld32 5 k5, c.ld32 6 k6, c.ld64 7 k7, c.ldI 8 k8, c.ldI 9 k9, c.ldT 10 k10 k11, c.ldT 12 k12 k13 , Int.reduceBEq, Int.reduceBNe, Int.reduceGT, Int.reduceGE, Nat.reduceAdd])
    rw [wHow_t hb]
    exact ⟨(by first | rfl | trivial), by simp [hl], (by first | trivial | ((simp (disch := (first | (simp only [List.length_set, hl]; omega) | omega | rfl)) only [sL, h0]))), (by first | trivial | ((simp (disch := (first | (simp only [List.length_set, hl]; omega) | omega | rfl)) only [sL, h3]))), c⟩
  · intro hb
    simp only [beq_iff_eq, beq_eq_false_iff_ne] at hb
    with_reducible refine Wp.skip ?_
    rw [wHow_f hb]
    exact ⟨(by first | rfl | trivial), by simp [hl], (by first | trivial | ((simp (disch := (first | (simp only [List.length_set, hl]; omega) | omega | rfl)) only [sL, h0]))), (by first | trivial | ((simp (disch := (first | (simp only [List.length_set, hl]; omega) | omega | rfl)) only [sL, h3]))), c⟩
  clear h0 h3 hl c
  clear env
  intro env h q
  obtain ⟨hl, h0, h3, c⟩ := q
  repeat (first | (with_reducible refine Wp.st ?_; simp only [wS]) | with_reducible refine Wp.drawS (by decide +kernel) ?_ | simp (disch := (first | (simp only [List.length_set, hl]; omega) | omega | rfl)) only [walkA, walkB, bne_self_eq_false, beq_self_eq_true, Option.map_some, Option.map_none, reduceIte, decide_true, decide_false, Int.reduceLT, Int.reduceLE, Int.reduceMul, Int.reduceAdd, Int.reduceSub, h0])
  simp only [aRes_none Try.results39]
  exact ⟨trivial, c.drop⟩
end
end Go.Proofs.Ytanknjpcgceccaa
