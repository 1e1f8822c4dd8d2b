/- What the coder's primitives come to where it reads, over the abstract machine. -/
import Derived.Test.YtanknjpcgceccaaLims5
import Derived.Test.YtanknjpcgceccaaLims7

namespace Go.Proofs.Ytanknjpcgceccaa
open Go Go.AM
set_option linter.unusedSimpArgs false
set_option maxRecDepth 100000
abbrev TC : TypeId := 69
abbrev TRd : TypeId := 113
section
variable {k off : Nat}
theorem faC0 : aFieldAddr Try.prog 69 (.pointer (some ⟨k, off, none⟩)) 0 = some (.pointer (some ⟨k, off, none⟩)) := by kernel_rfl
theorem faC1 : aFieldAddr Try.prog 69 (.pointer (some ⟨k, off, none⟩)) 1 = some (.pointer (some ⟨k, off + 1, none⟩)) := by kernel_rfl
theorem faC2 : aFieldAddr Try.prog 69 (.pointer (some ⟨k, off, none⟩)) 2 = some (.pointer (some ⟨k, off + 2, none⟩)) := by kernel_rfl
theorem faT0 : aFieldAddr Try.prog 26 (.pointer (some ⟨k, off, none⟩)) 0 = some (.pointer (some ⟨k, off, none⟩)) := by kernel_rfl
theorem faT1 : aFieldAddr Try.prog 26 (.pointer (some ⟨k, off, none⟩)) 1 = some (.pointer (some ⟨k, off + 1, none⟩)) := by kernel_rfl
end
theorem pw_nn {xo yo : Operand} : aBin Try.prog .neq 67 xo yo (.pointer none) (.pointer none) = some (.bool false) := by kernel_rfl
theorem pw_en {xo yo : Operand} : aBin Try.prog .eql 67 xo yo (.pointer none) (.pointer none) = some (.bool true) := by kernel_rfl
theorem pw_np {xo yo : Operand} {a : Addr} : aBin Try.prog .neq 67 xo yo (.pointer (some a)) (.pointer none) = some (.bool true) := by kernel_rfl
theorem pw_ep {xo yo : Operand} {a : Addr} : aBin Try.prog .eql 67 xo yo (.pointer (some a)) (.pointer none) = some (.bool false) := by kernel_rfl
theorem iB : Try.prog.info? 4 = some Try.t4 := by kernel_rfl
theorem iU32 : Try.prog.info? 23 = some Try.t23 := by kernel_rfl
theorem iU64 : Try.prog.info? 24 = some Try.t24 := by kernel_rfl
theorem iStr : Try.prog.info? 9 = some Try.t9 := by kernel_rfl
theorem iRow : Try.prog.info? 22 = some Try.t22 := by kernel_rfl
theorem iPU32 : Try.prog.info? 123 = some Try.t123 := by kernel_rfl
theorem iPU64 : Try.prog.info? 125 = some Try.t125 := by kernel_rfl
abbrev pt (k o : Nat) : Value := .pointer (some ⟨k, o, none⟩)
structure CR (Z : Nat → Prop) (H0 h : Heap) (kc kr : Nat) (bv : Value) (bs : List Int) (s : Nat × Int) (bad : Bool) (L : List Blk) : Prop where
  st : St Z H0 h ((kc, [pt kr 0, .pointer none, .bool bad], TC) :: (kr, [bv, .int .i64 s.1, .int .i64 s.2], TRd) :: L)
  row : RowX H0 5 bv (bs.map (Value.int .u8))
  z : ∀ a n c, bv = .slice (some a) n c → n ≠ 0 → Z a.block
  len : bs.length ≤ 1000000000
  pos : s.1 ≤ bs.length
  byte : ∀ b ∈ bs, 0 ≤ b ∧ b < 256
theorem must_am (is bad : Bool) (rp wp : Value) (Z : Nat → Prop) (H0 h : Heap) (kc : Nat) (L : List Blk) (s : St Z H0 h ((kc, [rp, wp, .bool bad], TC) :: L)) :
    Cl Try.prog 70 [pt kc 0, .bool is] h fun v h' => v = .tuple #[] ∧ St Z H0 h' ((kc, [rp, wp, .bool (bad || !is)], TC) :: L) := by
  refine Cl.enter Try.func70 rfl 15 Try.ntmps70 (by simp) ?_
  intro env hl ha
  have h0 : sl env 0 = pt kc 0 := ha 0 (by simp)
  have h1 : sl env 1 = .bool is := ha 1 (by simp)
  clear ha
  have lb : aLoad Try.prog h 4 (.pointer (some ⟨kc, 0 + 2, none⟩)) = some (.bool bad) := by rw [s.ld Try.underlying4 (by simp) (by simp)]; rfl
  have sb := fun b : Bool => s.st iB rfl (0 + 2) (by simp) (v := .bool b) rfl rfl
  cases bad with
  | true =>
    have s1 := (sb true).1
    repeat (first | (with_reducible refine Wp.st ?_; simp only [wS]) | with_reducible refine Wp.drawS (by decide +kernel) ?_ | simp (disch := (first | (simp only [List.length_set, hl]; omega) | omega | rfl)) only [walkA, walkB, bne_self_eq_false, beq_self_eq_true, Option.map_some, Option.map_none, reduceIte, decide_true, decide_false, Int.reduceLT, Int.reduceLE, Int.reduceMul, Int.reduceAdd, Int.reduceSub, h0, h1, faC2, lb, s1])
    simp only [aRes_none Try.results70]
    exact ⟨trivial, (sb true).2⟩
  | false =>
    have s1 := (sb (!is)).1
    repeat (first | (with_reducible refine Wp.st ?_; simp only [wS]) | with_reducible refine Wp.drawS (by decide +kernel) ?_ | simp (disch := (first | (simp only [List.length_set, hl]; omega) | omega | rfl)) only [walkA, walkB, bne_self_eq_false, beq_self_eq_true, Option.map_some, Option.map_none, reduceIte, decide_true, decide_false, Int.reduceLT, Int.reduceLE, Int.reduceMul, Int.reduceAdd, Int.reduceSub, h0, h1, faC2, lb, s1])
    simp only [aRes_none Try.results70]
    exact ⟨trivial, (sb (!is)).2⟩
section
variable {Z : Nat → Prop} {H0 h h' : Heap} {kc kr : Nat} {bv : Value} {bs : List Int} {s s' : Nat × Int} {bad : Bool} {L : List Blk} {kt o : Nat} {cs : List Value} {T : TypeId}
theorem CR.rd (c : CR Z H0 h kc kr bv bs s bad L) : RdOK h kr TRd bv bs s :=
  ⟨c.st.tail.hd, c.st.stayedX c.row c.z, fun a n d e hn x => c.st.tail.off (kr, [bv, .int .i64 s.1, .int .i64 s.2], TRd) (by simp) (x ▸ c.z a n d e hn), c.len, c.pos, c.byte⟩
theorem CR.read (c : CR Z H0 h kc kr bv bs s bad L) (r : RdOK h' kr TRd bv bs s') (hs : Same h h' (onlyS kr)) : CR Z H0 h' kc kr bv bs s' bad L :=
  ⟨(c.st.swap.upd hs r.rd).swap, c.row, c.z, c.len, r.pos, c.byte⟩
theorem CR.lr (c : CR Z H0 h kc kr bv bs s bad L) : aLoad Try.prog h 65 (.pointer (some ⟨kc, 0, none⟩)) = some (pt kr 0) := by rw [c.st.ld Try.underlying65 (by simp) (by simp)]; rfl
theorem CR.lw (c : CR Z H0 h kc kr bv bs s bad L) : aLoad Try.prog h 67 (.pointer (some ⟨kc, 0 + 1, none⟩)) = some (.pointer none) := by rw [c.st.ld Try.underlying67 (by simp) (by simp)]; rfl
theorem CR.lb (c : CR Z H0 h kc kr bv bs s bad L) : aLoad Try.prog h 4 (.pointer (some ⟨kc, 0 + 2, none⟩)) = some (.bool bad) := by rw [c.st.ld Try.underlying4 (by simp) (by simp)]; rfl
theorem CR.ld {t : TypeId} {d : TypeDesc} (c : CR Z H0 h kc kr bv bs s bad ((kt, cs, T) :: L)) (hu : Try.prog.underlying t = some d) (h1 : ∀ fs, d ≠ .struct fs) (h2 : ∀ n e, d ≠ .array n e) (o : Nat) : aLoad Try.prog h t (pt kt o) = cs[o]? :=
  c.st.rot3'.ld hu h1 h2 o
theorem CR.put {t : TypeId} {i : TypeInfo} {v : Value} (c : CR Z H0 h kc kr bv bs s bad ((kt, cs, T) :: L)) (hi : Try.prog.info? t = some i) (hs : i.size = 1) (o : Nat) (ho : o < cs.length) (hv : v.cells = #[v]) (h1 : v.oneCell' = true) :
    aStore Try.prog h t (pt kt o) v = some (h.set kt (.cells (cs.set o v) T false)) ∧ CR Z H0 (h.set kt (.cells (cs.set o v) T false)) kc kr bv bs s bad ((kt, cs.set o v, T) :: L) := by
  have q := c.st.rot3'.st (P := Try.prog) hi hs o ho hv h1
  exact ⟨q.1, ⟨q.2.rot3, c.row, c.z, c.len, c.pos, c.byte⟩⟩
theorem CR.alloc (c : CR Z H0 h kc kr bv bs s bad L) (cs : List Value) (T : TypeId) : CR Z H0 (h.push (.cells cs T false)) kc kr bv bs s bad ((h.next, cs, T) :: L) :=
  ⟨(c.st.push cs T).rot3, c.row, c.z, c.len, c.pos, c.byte⟩
theorem CR.drop {x : Blk} (c : CR Z H0 h kc kr bv bs s bad (x :: L)) : CR Z H0 h kc kr bv bs s bad L := ⟨c.st.drop3, c.row, c.z, c.len, c.pos, c.byte⟩
theorem CR.swap {x y : Blk} (c : CR Z H0 h kc kr bv bs s bad (x :: y :: L)) : CR Z H0 h kc kr bv bs s bad (y :: x :: L) := ⟨c.st.perm (((List.Perm.swap _ _ _).cons _).cons _), c.row, c.z, c.len, c.pos, c.byte⟩
theorem CR.bad' {b2 : Bool} (c : CR Z H0 h kc kr bv bs s bad L) (q : St Z H0 h' ((kc, [pt kr 0, .pointer none, .bool b2], TC) :: (kr, [bv, .int .i64 s.1, .int .i64 s.2], TRd) :: L)) : CR Z H0 h' kc kr bv bs s b2 L := ⟨q, c.row, c.z, c.len, c.pos, c.byte⟩
theorem CR.same (c : CR Z H0 h kc kr bv bs s bad L) (hs : Same h h' noS) : CR Z H0 h' kc kr bv bs s bad L := ⟨c.st.same hs, c.row, c.z, c.len, c.pos, c.byte⟩
end
section
variable (Z : Nat → Prop) (H0 h : Heap) (kc kr : Nat) (bv : Value) (bs : List Int) (s : Nat × Int) (bad : Bool) (L : List Blk) (kt o : Nat) (cs : List Value) (T : TypeId)
theorem truthR_am (c : CR Z H0 h kc kr bv bs s bad ((kt, cs, T) :: L)) (ho : o < cs.length) :
    Cl Try.prog 53 [pt kc 0, pt kt o] h fun v h' => v = .bool (rBool bs s).1 ∧ CR Z H0 h' kc kr bv bs (rBool bs s).2 bad ((kt, cs.set o (.bool (rBool bs s).1), T) :: L) := by
  refine Cl.enter Try.func53 rfl 29 Try.ntmps53 (by simp) ?_
  intro env hl ha
  have h0 : sl env 0 = pt kc 0 := ha 0 (by simp)
  have h1 : sl env 1 = pt kt o := ha 1 (by simp)
  clear ha
  have lw := c.lw
  have lr := c.lr
  repeat (first | (with_reducible refine Wp.st ?_; simp only [wS]) | with_reducible refine Wp.drawS (by decide +kernel) ?_ | simp (disch := (first | (simp only [List.length_set, hl]; omega) | omega | rfl)) only [walkA, walkB, bne_self_eq_false, beq_self_eq_true, Option.map_some, Option.map_none, reduceIte, decide_true, decide_false, Int.reduceLT, Int.reduceLE, Int.reduceMul, Int.reduceAdd, Int.reduceSub, h0, h1, faC1, lw, pw_nn])
  refine Wp.cond_false (by first | ((simp (disch := (first | (simp only [List.length_set, hl]; omega) | omega | rfl)) only [sL, aEval_tmp]); done) | ((simp (disch := (first | (simp only [List.length_set, hl]; omega) | omega | rfl)) only [sL, aEval_tmp]); rfl)) ?_
  repeat (first | (with_reducible refine Wp.st ?_; simp only [wS]) | with_reducible refine Wp.drawS (by decide +kernel) ?_ | simp (disch := (first | (simp only [List.length_set, hl]; omega) | omega | rfl)) only [walkA, walkB, bne_self_eq_false, beq_self_eq_true, Option.map_some, Option.map_none, reduceIte, decide_true, decide_false, Int.reduceLT, Int.reduceLE, Int.reduceMul, Int.reduceAdd, Int.reduceSub, h0, h1, faC0, lr])
  refine (rBool_am kr _ bv bs s h c.rd).mono ?_
  rintro v h1' ⟨rfl, r, hs⟩
  have c1 := c.read r hs
  have p := c1.put iB rfl o ho (v := .bool (rBool bs s).1) rfl rfl
  have ld := p.2.ld Try.underlying4 (by simp) (by simp) o
  rw [List.getElem?_set_self ho] at ld
  have p1 := p.1
  repeat (first | (with_reducible refine Wp.st ?_; simp only [wS]) | with_reducible refine Wp.drawS (by decide +kernel) ?_ | simp (disch := (first | (simp only [List.length_set, hl]; omega) | omega | rfl)) only [walkA, walkB, bne_self_eq_false, beq_self_eq_true, Option.map_some, Option.map_none, reduceIte, decide_true, decide_false, Int.reduceLT, Int.reduceLE, Int.reduceMul, Int.reduceAdd, Int.reduceSub, h0, h1, p1, ld])
  simp (disch := (first | (simp only [List.length_set, hl]; omega) | omega | rfl)) only [aRes_one Try.results53, sL]
  exact ⟨trivial, p.2⟩
end
def rU32s (bs : List Int) : List Nat → (Nat × Int) × List Value → (Nat × Int) × List Value
  | [], x => x
  | o :: os, x => rU32s bs os ((rNum bs 4 x.1).2, x.2.set o (.int .u32 (rNum bs 4 x.1).1))
def rU64s (bs : List Int) : List Nat → (Nat × Int) × List Value → (Nat × Int) × List Value
  | [], x => x
  | o :: os, x => rU64s bs os ((rNum bs 8 x.1).2, x.2.set o (.int .u64 (rNum bs 8 x.1).1))
section
variable (Z : Nat → Prop) (H0 h : Heap) (kc kr : Nat) (bv : Value) (bs : List Int) (s : Nat × Int) (bad : Bool) (L : List Blk) (kt o : Nat) (cs : List Value) (T kl : Nat) (Tp : TypeId)
theorem u32R_am (os : List Nat) (c : CR Z H0 h kc kr bv bs s bad ((kt, cs, T) :: (kl, os.map (pt kt), Tp) :: L)) (ho : ∀ o ∈ os, o < cs.length) (hn : os.length ≤ 1000) :
    Cl Try.prog 55 [pt kc 0, .slice (some ⟨kl, 0, none⟩) os.length os.length] h fun v h' => v = .tuple #[] ∧ CR Z H0 h' kc kr bv bs (rU32s bs os (s, cs)).1 bad ((kt, (rU32s bs os (s, cs)).2, T) :: L) := by
  refine Cl.enter Try.func55 rfl 34 Try.ntmps55 (by simp) ?_
  intro env hl ha
  have h0 : sl env 0 = pt kc 0 := ha 0 (by simp)
  have h1 : sl env 1 = .slice (some ⟨kl, 0, none⟩) os.length os.length := ha 1 (by simp)
  clear ha
  have row : ∀ {h : Heap} {s : Nat × Int} {cs : List Value}, CR Z H0 h kc kr bv bs s bad ((kt, cs, T) :: (kl, os.map (pt kt), Tp) :: L) → Row h (.slice (some ⟨kl, 0, none⟩) os.length os.length) (os.map (pt kt)) := fun c => by
    have := Row.whole (cap := os.length) c.swap.st.rot3'.hd
    simpa using this
  have hl2 := len_any (row c) Try.underlying142
  simp only [List.length_map] at hl2
  repeat (first | (with_reducible refine Wp.st ?_; simp only [wS]) | with_reducible refine Wp.drawS (by decide +kernel) ?_ | simp (disch := (first | (simp only [List.length_set, hl]; omega) | omega | rfl)) only [walkA, walkB, bne_self_eq_false, beq_self_eq_true, Option.map_some, Option.map_none, reduceIte, decide_true, decide_false, Int.reduceLT, Int.reduceLE, Int.reduceMul, Int.reduceAdd, Int.reduceSub, h0, h1, hl2])
  refine Wp.loop (fun m e hh => ∃ (j : Nat) (s' : Nat × Int) (cs' : List Value), j + m = os.length ∧ e.length = 34 ∧ sl e 0 = pt kc 0 ∧ sl e 6 = .slice (some ⟨kl, 0, none⟩) os.length os.length ∧ sl e 7 = .int .i64 os.length ∧ sl e 8 = .int .i64 j ∧
      cs'.length = cs.length ∧ rU32s bs os (s, cs) = rU32s bs (os.drop j) (s', cs') ∧ CR Z H0 hh kc kr bv bs s' bad ((kt, cs', T) :: (kl, os.map (pt kt), Tp) :: L)) os.length
    ⟨0, s, cs, by omega, by simp [hl], by (simp (disch := (first | (simp only [List.length_set, hl]; omega) | omega | rfl)) only [sL, h0]), by (simp (disch := (first | (simp only [List.length_set, hl]; omega) | omega | rfl)) only [sL, h1]), by (simp (disch := (first | (simp only [List.length_set, hl]; omega) | omega | rfl)) only [sL]), by (simp (disch := (first | (simp only [List.length_set, hl]; omega) | omega | rfl)) only [sL]); rfl, rfl, rfl, c⟩ ?_
  clear h0 h1 hl env hl2 c
  rintro m e hh ⟨j, s', cs', hj, hl, e0, e6, e7, e8, hcl, heq, c⟩
  repeat (first | (with_reducible refine Wp.st ?_; simp only [wS]) | with_reducible refine Wp.drawS (by decide +kernel) ?_ | simp (disch := (first | (simp only [List.length_set, hl]; omega) | omega | rfl)) only [walkA, walkB, bne_self_eq_false, beq_self_eq_true, Option.map_some, Option.map_none, reduceIte, decide_true, decide_false, Int.reduceLT, Int.reduceLE, Int.reduceMul, Int.reduceAdd, Int.reduceSub, e0, e6, e7, e8])
  by_cases hlt : j < os.length
  · refine Wp.cond_true (by (simp (disch := (first | (simp only [List.length_set, hl]; omega) | omega | rfl)) only [sL, aEval_tmp]); simpa using hlt) ?_
    have lw := c.lw
    have lr := c.lr
    obtain ⟨k, off, hx1, hx2⟩ := (row c).index (P := Try.prog) Try.underlying142 iPU32 rfl (j := j) (kd := .i64) (by simpa using hlt)
    rw [← aLoad_one (P := Try.prog) Try.underlying123 (by simp) (by simp), List.getElem_map] at hx2
    have hoj : os[j] < cs'.length := by rw [hcl]; exact ho _ (List.getElem_mem hlt)
    have hd : os.drop j = os[j] :: os.drop (j + 1) := List.drop_eq_getElem_cons hlt
    rw [hd] at heq
    generalize os[j] = oj at hx2 hoj heq
    repeat (first | (with_reducible refine Wp.st ?_; simp only [wS]) | with_reducible refine Wp.drawS (by decide +kernel) ?_ | simp (disch := (first | (simp only [List.length_set, hl]; omega) | omega | rfl)) only [walkA, walkB, bne_self_eq_false, beq_self_eq_true, Option.map_some, Option.map_none, reduceIte, decide_true, decide_false, Int.reduceLT, Int.reduceLE, Int.reduceMul, Int.reduceAdd, Int.reduceSub, e0, e6, e7, e8, hx1, hx2, faC1, lw, pw_nn])
    refine Wp.cond_false (by first | ((simp (disch := (first | (simp only [List.length_set, hl]; omega) | omega | rfl)) only [sL, aEval_tmp]); done) | ((simp (disch := (first | (simp only [List.length_set, hl]; omega) | omega | rfl)) only [sL, aEval_tmp]); rfl)) ?_
    repeat (first | (with_reducible refine Wp.st ?_; simp only [wS]) | with_reducible refine Wp.drawS (by decide +kernel) ?_ | simp (disch := (first | (simp only [List.length_set, hl]; omega) | omega | rfl)) only [walkA, walkB, bne_self_eq_false, beq_self_eq_true, Option.map_some, Option.map_none, reduceIte, decide_true, decide_false, Int.reduceLT, Int.reduceLE, Int.reduceMul, Int.reduceAdd, Int.reduceSub, e0, e6, e7, e8, faC0, lr])
    refine (rU32_am kr _ bv bs s' hh c.rd).mono ?_
    rintro v h1' ⟨rfl, r, hs⟩
    obtain ⟨hr1, hr2⟩ := rNum_le bs c.byte s'
    have w1 : IntKind.u32.wrap (rNum bs 4 s').1 = (rNum bs 4 s').1 := wrap_u32 hr1 hr2
    have c1 := c.read r hs
    have p := c1.put iU32 rfl oj hoj (v := .int .u32 (rNum bs 4 s').1) rfl rfl
    have p1 := p.1
    repeat (first | (with_reducible refine Wp.st ?_; simp only [wS]) | with_reducible refine Wp.drawS (by decide +kernel) ?_ | simp (disch := (first | (simp only [List.length_set, hl]; omega) | omega | rfl)) only [walkA, walkB, bne_self_eq_false, beq_self_eq_true, Option.map_some, Option.map_none, reduceIte, decide_true, decide_false, Int.reduceLT, Int.reduceLE, Int.reduceMul, Int.reduceAdd, Int.reduceSub, e0, e6, e7, e8, w1, p1])
    exact ⟨m - 1, by omega, j + 1, _, _, by omega, by simp [hl], by (simp (disch := (first | (simp only [List.length_set, hl]; omega) | omega | rfl)) only [sL, e0]), by (simp (disch := (first | (simp only [List.length_set, hl]; omega) | omega | rfl)) only [sL, e6]), by (simp (disch := (first | (simp only [List.length_set, hl]; omega) | omega | rfl)) only [sL, e7]), by (simp (disch := (first | (simp only [List.length_set, hl]; omega) | omega | rfl)) only [sL, Int.natCast_add]); rfl, by rw [List.length_set]; exact hcl, heq, p.2⟩
  · refine Wp.cond_false (by (simp (disch := (first | (simp only [List.length_set, hl]; omega) | omega | rfl)) only [sL, aEval_tmp]); simpa using hlt) ?_
    repeat (first | (with_reducible refine Wp.st ?_; simp only [wS]) | with_reducible refine Wp.drawS (by decide +kernel) ?_ | simp (disch := (first | (simp only [List.length_set, hl]; omega) | omega | rfl)) only [walkA, walkB, bne_self_eq_false, beq_self_eq_true, Option.map_some, Option.map_none, reduceIte, decide_true, decide_false, Int.reduceLT, Int.reduceLE, Int.reduceMul, Int.reduceAdd, Int.reduceSub, e0, e6, e7, e8])
    simp only [aRes_none Try.results55]
    rw [List.drop_eq_nil_of_le (by omega)] at heq
    rw [heq]
    exact ⟨trivial, c.swap.drop⟩
theorem u64R_am (os : List Nat) (c : CR Z H0 h kc kr bv bs s bad ((kt, cs, T) :: (kl, os.map (pt kt), Tp) :: L)) (ho : ∀ o ∈ os, o < cs.length) (hn : os.length ≤ 1000) :
    Cl Try.prog 56 [pt kc 0, .slice (some ⟨kl, 0, none⟩) os.length os.length] h fun v h' => v = .tuple #[] ∧ CR Z H0 h' kc kr bv bs (rU64s bs os (s, cs)).1 bad ((kt, (rU64s bs os (s, cs)).2, T) :: L) := by
  refine Cl.enter Try.func56 rfl 34 Try.ntmps56 (by simp) ?_
  intro env hl ha
  have h0 : sl env 0 = pt kc 0 := ha 0 (by simp)
  have h1 : sl env 1 = .slice (some ⟨kl, 0, none⟩) os.length os.length := ha 1 (by simp)
  clear ha
  have row : ∀ {h : Heap} {s : Nat × Int} {cs : List Value}, CR Z H0 h kc kr bv bs s bad ((kt, cs, T) :: (kl, os.map (pt kt), Tp) :: L) → Row h (.slice (some ⟨kl, 0, none⟩) os.length os.length) (os.map (pt kt)) := fun c => by
    have := Row.whole (cap := os.length) c.swap.st.rot3'.hd
    simpa using this
  have hl2 := len_any (row c) Try.underlying143
  simp only [List.length_map] at hl2
  repeat (first | (with_reducible refine Wp.st ?_; simp only [wS]) | with_reducible refine Wp.drawS (by decide +kernel) ?_ | simp (disch := (first | (simp only [List.length_set, hl]; omega) | omega | rfl)) only [walkA, walkB, bne_self_eq_false, beq_self_eq_true, Option.map_some, Option.map_none, reduceIte, decide_true, decide_false, Int.reduceLT, Int.reduceLE, Int.reduceMul, Int.reduceAdd, Int.reduceSub, h0, h1, hl2])
  refine Wp.loop (fun m e hh => ∃ (j : Nat) (s' : Nat × Int) (cs' : List Value), j + m = os.length ∧ e.length = 34 ∧ sl e 0 = pt kc 0 ∧ sl e 6 = .slice (some ⟨kl, 0, none⟩) os.length os.length ∧ sl e 7 = .int .i64 os.length ∧ sl e 8 = .int .i64 j ∧
      cs'.length = cs.length ∧ rU64s bs os (s, cs) = rU64s bs (os.drop j) (s', cs') ∧ CR Z H0 hh kc kr bv bs s' bad ((kt, cs', T) :: (kl, os.map (pt kt), Tp) :: L)) os.length
    ⟨0, s, cs, by omega, by simp [hl], by (simp (disch := (first | (simp only [List.length_set, hl]; omega) | omega | rfl)) only [sL, h0]), by (simp (disch := (first | (simp only [List.length_set, hl]; omega) | omega | rfl)) only [sL, h1]), by (simp (disch := (first | (simp only [List.length_set, hl]; omega) | omega | rfl)) only [sL]), by (simp (disch := (first | (simp only [List.length_set, hl]; omega) | omega | rfl)) only [sL]); rfl, rfl, rfl, c⟩ ?_
  clear h0 h1 hl env hl2 c
  rintro m e hh ⟨j, s', cs', hj, hl, e0, e6, e7, e8, hcl, heq, c⟩
  repeat (first | (with_reducible refine Wp.st ?_; simp only [wS]) | with_reducible refine Wp.drawS (by decide +kernel) ?_ | simp (disch := (first | (simp only [List.length_set, hl]; omega) | omega | rfl)) only [walkA, walkB, bne_self_eq_false, beq_self_eq_true, Option.map_some, Option.map_none, reduceIte, decide_true, decide_false, Int.reduceLT, Int.reduceLE, Int.reduceMul, Int.reduceAdd, Int.reduceSub, e0, e6, e7, e8])
  by_cases hlt : j < os.length
  · refine Wp.cond_true (by (simp (disch := (first | (simp only [List.length_set, hl]; omega) | omega | rfl)) only [sL, aEval_tmp]); simpa using hlt) ?_
    have lw := c.lw
    have lr := c.lr
    obtain ⟨k, off, hx1, hx2⟩ := (row c).index (P := Try.prog) Try.underlying143 iPU64 rfl (j := j) (kd := .i64) (by simpa using hlt)
    rw [← aLoad_one (P := Try.prog) Try.underlying125 (by simp) (by simp), List.getElem_map] at hx2
    have hoj : os[j] < cs'.length := by rw [hcl]; exact ho _ (List.getElem_mem hlt)
    have hd : os.drop j = os[j] :: os.drop (j + 1) := List.drop_eq_getElem_cons hlt
    rw [hd] at heq
    generalize os[j] = oj at hx2 hoj heq
    repeat (first | (with_reducible refine Wp.st ?_; simp only [wS]) | with_reducible refine Wp.drawS (by decide +kernel) ?_ | simp (disch := (first | (simp only [List.length_set, hl]; omega) | omega | rfl)) only [walkA, walkB, bne_self_eq_false, beq_self_eq_true, Option.map_some, Option.map_none, reduceIte, decide_true, decide_false, Int.reduceLT, Int.reduceLE, Int.reduceMul, Int.reduceAdd, Int.reduceSub, e0, e6, e7, e8, hx1, hx2, faC1, lw, pw_nn])
    refine Wp.cond_false (by first | ((simp (disch := (first | (simp only [List.length_set, hl]; omega) | omega | rfl)) only [sL, aEval_tmp]); done) | ((simp (disch := (first | (simp only [List.length_set, hl]; omega) | omega | rfl)) only [sL, aEval_tmp]); rfl)) ?_
    repeat (first | (with_reducible refine Wp.st ?_; simp only [wS]) | with_reducible refine Wp.drawS (by decide +kernel) ?_ | simp (disch := (first | (simp only [List.length_set, hl]; omega) | omega | rfl)) only [walkA, walkB, bne_self_eq_false, beq_self_eq_true, Option.map_some, Option.map_none, reduceIte, decide_true, decide_false, Int.reduceLT, Int.reduceLE, Int.reduceMul, Int.reduceAdd, Int.reduceSub, e0, e6, e7, e8, faC0, lr])
    refine (rU64_am kr _ bv bs s' hh c.rd).mono ?_
    rintro v h1' ⟨rfl, r, hs⟩
    have c1 := c.read r hs
    have p := c1.put iU64 rfl oj hoj (v := .int .u64 (rNum bs 8 s').1) rfl rfl
    have p1 := p.1
    repeat (first | (with_reducible refine Wp.st ?_; simp only [wS]) | with_reducible refine Wp.drawS (by decide +kernel) ?_ | simp (disch := (first | (simp only [List.length_set, hl]; omega) | omega | rfl)) only [walkA, walkB, bne_self_eq_false, beq_self_eq_true, Option.map_some, Option.map_none, reduceIte, decide_true, decide_false, Int.reduceLT, Int.reduceLE, Int.reduceMul, Int.reduceAdd, Int.reduceSub, e0, e6, e7, e8, p1])
    exact ⟨m - 1, by omega, j + 1, _, _, by omega, by simp [hl], by (simp (disch := (first | (simp only [List.length_set, hl]; omega) | omega | rfl)) only [sL, e0]), by (simp (disch := (first | (simp only [List.length_set, hl]; omega) | omega | rfl)) only [sL, e6]), by (simp (disch := (first | (simp only [List.length_set, hl]; omega) | omega | rfl)) only [sL, e7]), by (simp (disch := (first | (simp only [List.length_set, hl]; omega) | omega | rfl)) only [sL, Int.natCast_add]); rfl, by rw [List.length_set]; exact hcl, heq, p.2⟩
  · refine Wp.cond_false (by (simp (disch := (first | (simp only [List.length_set, hl]; omega) | omega | rfl)) only [sL, aEval_tmp]); simpa using hlt) ?_
    repeat (first | (with_reducible refine Wp.st ?_; simp only [wS]) | with_reducible refine Wp.drawS (by decide +kernel) ?_ | simp (disch := (first | (simp only [List.length_set, hl]; omega) | omega | rfl)) only [walkA, walkB, bne_self_eq_false, beq_self_eq_true, Option.map_some, Option.map_none, reduceIte, decide_true, decide_false, Int.reduceLT, Int.reduceLE, Int.reduceMul, Int.reduceAdd, Int.reduceSub, e0, e6, e7, e8])
    simp only [aRes_none Try.results56]
    rw [List.drop_eq_nil_of_le (by omega)] at heq
    rw [heq]
    exact ⟨trivial, c.swap.drop⟩
end
end Go.Proofs.Ytanknjpcgceccaa

namespace Go.Proofs.Ytanknjpcgceccaa
open Go Go.AM
set_option linter.unusedSimpArgs false
set_option maxRecDepth 100000
theorem faS0 {k off : Nat} : aFieldAddr Try.prog 28 (.pointer (some ⟨k, off, none⟩)) 0 = some (.pointer (some ⟨k, off, none⟩)) := by kernel_rfl
theorem faS1 {k off : Nat} : aFieldAddr Try.prog 28 (.pointer (some ⟨k, off, none⟩)) 1 = some (.pointer (some ⟨k, off + 1, none⟩)) := by kernel_rfl
theorem faS2 {k off : Nat} : aFieldAddr Try.prog 28 (.pointer (some ⟨k, off, none⟩)) 2 = some (.pointer (some ⟨k, off + 2, none⟩)) := by kernel_rfl
theorem faS3 {k off : Nat} : aFieldAddr Try.prog 28 (.pointer (some ⟨k, off, none⟩)) 3 = some (.pointer (some ⟨k, off + 3, none⟩)) := by kernel_rfl
theorem faS4 {k off : Nat} : aFieldAddr Try.prog 28 (.pointer (some ⟨k, off, none⟩)) 4 = some (.pointer (some ⟨k, off + 4, none⟩)) := by kernel_rfl
theorem faS5 {k off : Nat} : aFieldAddr Try.prog 28 (.pointer (some ⟨k, off, none⟩)) 5 = some (.pointer (some ⟨k, off + 5, none⟩)) := by kernel_rfl
theorem faS6 {k off : Nat} : aFieldAddr Try.prog 28 (.pointer (some ⟨k, off, none⟩)) 6 = some (.pointer (some ⟨k, off + 6, none⟩)) := by kernel_rfl
theorem faS7 {k off : Nat} : aFieldAddr Try.prog 28 (.pointer (some ⟨k, off, none⟩)) 7 = some (.pointer (some ⟨k, off + 7, none⟩)) := by kernel_rfl
theorem faS8 {k off : Nat} : aFieldAddr Try.prog 28 (.pointer (some ⟨k, off, none⟩)) 8 = some (.pointer (some ⟨k, off + 8, none⟩)) := by kernel_rfl
theorem faS9 {k off : Nat} : aFieldAddr Try.prog 28 (.pointer (some ⟨k, off, none⟩)) 9 = some (.pointer (some ⟨k, off + 9, none⟩)) := by kernel_rfl
theorem faS10 {k off : Nat} : aFieldAddr Try.prog 28 (.pointer (some ⟨k, off, none⟩)) 10 = some (.pointer (some ⟨k, off + 10, none⟩)) := by kernel_rfl
theorem faS11 {k off : Nat} : aFieldAddr Try.prog 28 (.pointer (some ⟨k, off, none⟩)) 11 = some (.pointer (some ⟨k, off + 12, none⟩)) := by kernel_rfl
theorem faA0 {k off : Nat} : aFieldAddr Try.prog 30 (.pointer (some ⟨k, off, none⟩)) 0 = some (.pointer (some ⟨k, off, none⟩)) := by kernel_rfl
theorem faA1 {k off : Nat} : aFieldAddr Try.prog 30 (.pointer (some ⟨k, off, none⟩)) 1 = some (.pointer (some ⟨k, off + 1, none⟩)) := by kernel_rfl
theorem faA2 {k off : Nat} : aFieldAddr Try.prog 30 (.pointer (some ⟨k, off, none⟩)) 2 = some (.pointer (some ⟨k, off + 2, none⟩)) := by kernel_rfl
theorem faA3 {k off : Nat} : aFieldAddr Try.prog 30 (.pointer (some ⟨k, off, none⟩)) 3 = some (.pointer (some ⟨k, off + 3, none⟩)) := by kernel_rfl
theorem faA4 {k off : Nat} : aFieldAddr Try.prog 30 (.pointer (some ⟨k, off, none⟩)) 4 = some (.pointer (some ⟨k, off + 4, none⟩)) := by kernel_rfl
theorem faA5 {k off : Nat} : aFieldAddr Try.prog 30 (.pointer (some ⟨k, off, none⟩)) 5 = some (.pointer (some ⟨k, off + 5, none⟩)) := by kernel_rfl
theorem faA6 {k off : Nat} : aFieldAddr Try.prog 30 (.pointer (some ⟨k, off, none⟩)) 6 = some (.pointer (some ⟨k, off + 19, none⟩)) := by kernel_rfl
theorem faA7 {k off : Nat} : aFieldAddr Try.prog 30 (.pointer (some ⟨k, off, none⟩)) 7 = some (.pointer (some ⟨k, off + 20, none⟩)) := by kernel_rfl
theorem faA8 {k off : Nat} : aFieldAddr Try.prog 30 (.pointer (some ⟨k, off, none⟩)) 8 = some (.pointer (some ⟨k, off + 22, none⟩)) := by kernel_rfl
theorem faA9 {k off : Nat} : aFieldAddr Try.prog 30 (.pointer (some ⟨k, off, none⟩)) 9 = some (.pointer (some ⟨k, off + 23, none⟩)) := by kernel_rfl
theorem faA10 {k off : Nat} : aFieldAddr Try.prog 30 (.pointer (some ⟨k, off, none⟩)) 10 = some (.pointer (some ⟨k, off + 24, none⟩)) := by kernel_rfl
theorem faA11 {k off : Nat} : aFieldAddr Try.prog 30 (.pointer (some ⟨k, off, none⟩)) 11 = some (.pointer (some ⟨k, off + 25, none⟩)) := by kernel_rfl
theorem faA12 {k off : Nat} : aFieldAddr Try.prog 30 (.pointer (some ⟨k, off, none⟩)) 12 = some (.pointer (some ⟨k, off + 26, none⟩)) := by kernel_rfl
theorem faA13 {k off : Nat} : aFieldAddr Try.prog 30 (.pointer (some ⟨k, off, none⟩)) 13 = some (.pointer (some ⟨k, off + 27, none⟩)) := by kernel_rfl
theorem faA14 {k off : Nat} : aFieldAddr Try.prog 30 (.pointer (some ⟨k, off, none⟩)) 14 = some (.pointer (some ⟨k, off + 28, none⟩)) := by kernel_rfl
theorem faA15 {k off : Nat} : aFieldAddr Try.prog 30 (.pointer (some ⟨k, off, none⟩)) 15 = some (.pointer (some ⟨k, off + 29, none⟩)) := by kernel_rfl
theorem faA16 {k off : Nat} : aFieldAddr Try.prog 30 (.pointer (some ⟨k, off, none⟩)) 16 = some (.pointer (some ⟨k, off + 30, none⟩)) := by kernel_rfl
theorem faA17 {k off : Nat} : aFieldAddr Try.prog 30 (.pointer (some ⟨k, off, none⟩)) 17 = some (.pointer (some ⟨k, off + 31, none⟩)) := by kernel_rfl
theorem faA18 {k off : Nat} : aFieldAddr Try.prog 30 (.pointer (some ⟨k, off, none⟩)) 18 = some (.pointer (some ⟨k, off + 32, none⟩)) := by kernel_rfl
theorem faA19 {k off : Nat} : aFieldAddr Try.prog 30 (.pointer (some ⟨k, off, none⟩)) 19 = some (.pointer (some ⟨k, off + 33, none⟩)) := by kernel_rfl
theorem faA20 {k off : Nat} : aFieldAddr Try.prog 30 (.pointer (some ⟨k, off, none⟩)) 20 = some (.pointer (some ⟨k, off + 34, none⟩)) := by kernel_rfl
theorem faA21 {k off : Nat} : aFieldAddr Try.prog 30 (.pointer (some ⟨k, off, none⟩)) 21 = some (.pointer (some ⟨k, off + 35, none⟩)) := by kernel_rfl
section
variable {h : Heap} {a b : Addr}
theorem alU32 : aAlloc Try.prog h 23 = some (pt h.next 0, h.push (.cells [.int .u32 0] 23 false)) := by kernel_rfl
theorem alRow : aAlloc Try.prog h 22 = some (pt h.next 0, h.push (.cells [.slice none 0 0] 22 false)) := by kernel_rfl
theorem bp32 : aBuildSlice Try.prog h 142 1 [(0, .pointer (some a))] = some (.slice (some ⟨h.next, 0, none⟩) 1 1, h.push (.cells [.pointer (some a)] 123 false)) := by kernel_rfl
theorem bp64 : aBuildSlice Try.prog h 143 1 [(0, .pointer (some a))] = some (.slice (some ⟨h.next, 0, none⟩) 1 1, h.push (.cells [.pointer (some a)] 125 false)) := by kernel_rfl
theorem bp32' : aBuildSlice Try.prog h 142 2 [(0, .pointer (some a)), (1, .pointer (some b))] = some (.slice (some ⟨h.next, 0, none⟩) 2 2, h.push (.cells [.pointer (some a), .pointer (some b)] 123 false)) := by kernel_rfl
theorem bp64' : aBuildSlice Try.prog h 143 2 [(0, .pointer (some a)), (1, .pointer (some b))] = some (.slice (some ⟨h.next, 0, none⟩) 2 2, h.push (.cells [.pointer (some a), .pointer (some b)] 125 false)) := by kernel_rfl
theorem bTime : aBuild Try.prog 26 [] = some (.agg #[.int .u32 0, .int .u32 0]) := by kernel_rfl
theorem cvStr {s : ByteArray} (hs : s.size ≤ 1000000000) : aConv Try.prog h 9 22 (.string s) = some (.slice (some ⟨h.next, 0, none⟩) s.size opnCap, h.push (.cells (s.data.toList.map fun b => .int .u8 b.toNat) 5 false)) := by
  have e1 : small s.size = true := small_of (by omega)
  have e2 : (s.data.toList.map fun b => Value.int .u8 b.toNat).all Value.oneCell' = true := by
    refine List.all_eq_true.2 fun x hx => ?_
    obtain ⟨b, _, rfl⟩ := List.mem_map.1 hx
    rfl
  have e3 : Nat.beq (Try.t5).size 1 = true := rfl
  simp only [aConv, Try.underlying9, Try.underlying22, Try.underlying5, i5, e1, e3, aNew, e2, Bool.and_self, cond_true]
end
structure RS where
  s : Nat × Int
  bad : Bool
  cs : List Value
def pU32 (bs : List Int) (o : Nat) (x : RS) : RS := ⟨(rNum bs 4 x.s).2, x.bad, x.cs.set o (.int .u32 (rNum bs 4 x.s).1)⟩
def pU64 (bs : List Int) (o : Nat) (x : RS) : RS := ⟨(rNum bs 8 x.s).2, x.bad, x.cs.set o (.int .u64 (rNum bs 8 x.s).1)⟩
def pBool (bs : List Int) (o : Nat) (x : RS) : RS := ⟨(rBool bs x.s).2, x.bad, x.cs.set o (.bool (rBool bs x.s).1)⟩
def pNum (bs : List Int) (o : Nat) (from' to : Int) (x : RS) : RS := ⟨(rNum bs 4 x.s).2, x.bad || !(decide (from' ≤ (rNum bs 4 x.s).1) && decide ((rNum bs 4 x.s).1 ≤ to)), x.cs.set o (.int .i64 (rNum bs 4 x.s).1)⟩
def pText (bs : List Int) (o : Nat) (most : Int) (x : RS) : RS := ⟨(rBytes bs most x.s).2, x.bad, x.cs.set o (.string (strS ((rBytes bs most x.s).1.map (Value.int .u8))))⟩
def pTime (bs : List Int) (o : Nat) (x : RS) : RS := pU32 bs (o + 1) (pU32 bs o x)
def pNoTime (o : Nat) (x : RS) : RS := { x with cs := (x.cs.set o (.int .u32 0)).set (o + 1) (.int .u32 0) }
def pHow (bs : List Int) (o t : Nat) (x : RS) : RS := if (rNum bs 4 x.s).1 = 2 then pTime bs t (pNum bs o 0 2 x) else pNoTime t (pNum bs o 0 2 x)
def pIf (bs : List Int) (o : Nat) (f : RS → RS) (x : RS) : RS := if (rBool bs x.s).1 = true then f (pBool bs o x) else pBool bs o x
def pSet (bs : List Int) (o : Nat) (x : RS) : RS :=
  pHow bs (o + 9) (o + 12) (pHow bs (o + 8) (o + 10) (pIf bs (o + 3) (pU64 bs (o + 7)) (pIf bs (o + 2) (pU32 bs (o + 6)) (pIf bs (o + 1) (pU32 bs (o + 5)) (pIf bs o (pNum bs (o + 4) 0 4294967295) x)))))
def CRS (Z : Nat → Prop) (H0 h : Heap) (kc kr : Nat) (bv : Value) (bs : List Int) (x : RS) (kt : Nat) (T : TypeId) (L : List Blk) : Prop := CR Z H0 h kc kr bv bs x.s x.bad ((kt, x.cs, T) :: L)
section
variable {Z : Nat → Prop} {H0 h : Heap} {kc kr : Nat} {bv : Value} {bs : List Int} {s : Nat × Int} {bad : Bool} {L : List Blk} {kt : Nat} {cs : List Value} {T : TypeId}
theorem u32R1 (c : CR Z H0 h kc kr bv bs s bad ((kt, cs, T) :: L)) (o : Nat) (ho : o < cs.length) :
    Cl Try.prog 55 [pt kc 0, .slice (some ⟨h.next, 0, none⟩) 1 1] (h.push (.cells [pt kt o] 123 false)) fun v h' => v = .tuple #[] ∧ CR Z H0 h' kc kr bv bs (rNum bs 4 s).2 bad ((kt, cs.set o (.int .u32 (rNum bs 4 s).1), T) :: L) :=
  u32R_am Z H0 _ kc kr bv bs s bad L kt cs T h.next 123 [o] (c.alloc _ _).swap (by simpa using ho) (by simp)
theorem u64R1 (c : CR Z H0 h kc kr bv bs s bad ((kt, cs, T) :: L)) (o : Nat) (ho : o < cs.length) :
    Cl Try.prog 56 [pt kc 0, .slice (some ⟨h.next, 0, none⟩) 1 1] (h.push (.cells [pt kt o] 125 false)) fun v h' => v = .tuple #[] ∧ CR Z H0 h' kc kr bv bs (rNum bs 8 s).2 bad ((kt, cs.set o (.int .u64 (rNum bs 8 s).1), T) :: L) :=
  u64R_am Z H0 _ kc kr bv bs s bad L kt cs T h.next 125 [o] (c.alloc _ _).swap (by simpa using ho) (by simp)
theorem u32R2 (c : CR Z H0 h kc kr bv bs s bad ((kt, cs, T) :: L)) (o p : Nat) (ho : o < cs.length) (hp : p < cs.length) :
    Cl Try.prog 55 [pt kc 0, .slice (some ⟨h.next, 0, none⟩) 2 2] (h.push (.cells [pt kt o, pt kt p] 123 false)) fun v h' => v = .tuple #[] ∧ CRS Z H0 h' kc kr bv bs (pU32 bs p (pU32 bs o ⟨s, bad, cs⟩)) kt T L :=
  u32R_am Z H0 _ kc kr bv bs s bad L kt cs T h.next 123 [o, p] (c.alloc _ _).swap (by simp [ho, hp]) (by simp)
theorem u64R2 (c : CR Z H0 h kc kr bv bs s bad ((kt, cs, T) :: L)) (o p : Nat) (ho : o < cs.length) (hp : p < cs.length) :
    Cl Try.prog 56 [pt kc 0, .slice (some ⟨h.next, 0, none⟩) 2 2] (h.push (.cells [pt kt o, pt kt p] 125 false)) fun v h' => v = .tuple #[] ∧ CRS Z H0 h' kc kr bv bs (pU64 bs p (pU64 bs o ⟨s, bad, cs⟩)) kt T L :=
  u64R_am Z H0 _ kc kr bv bs s bad L kt cs T h.next 125 [o, p] (c.alloc _ _).swap (by simp [ho, hp]) (by simp)
end
section
variable (Z : Nat → Prop) (H0 h : Heap) (kc kr : Nat) (bv : Value) (bs : List Int) (kt : Nat) (T : TypeId) (L : List Blk)
theorem numR_am (x : RS) (o : Nat) (from' to : Int) (v0 : Int) (c : CRS Z H0 h kc kr bv bs x kt T L) (hv : x.cs[o]? = some (.int .i64 v0)) :
    Cl Try.prog 57 [pt kc 0, pt kt o, .int .i64 from', .int .i64 to] h fun v h' => v = .tuple #[] ∧ CRS Z H0 h' kc kr bv bs (pNum bs o from' to x) kt T L := by
  obtain ⟨s, bad, cs⟩ := x
  have c : CR Z H0 h kc kr bv bs s bad ((kt, cs, T) :: L) := c
  have hv : cs[o]? = some (.int .i64 v0) := hv
  have ho : o < cs.length := (List.getElem?_eq_some_iff.1 hv).1
  refine Cl.enter Try.func57 rfl 58 Try.ntmps57 (by simp) ?_
  intro env hl ha
  have h0 : sl env 0 = pt kc 0 := ha 0 (by simp)
  have h1 : sl env 1 = pt kt o := ha 1 (by simp)
  have h2 : sl env 2 = .int .i64 from' := ha 2 (by simp)
  have h3 : sl env 3 = .int .i64 to := ha 3 (by simp)
  clear ha
  have lw := c.lw
  have ld := c.ld Try.underlying3 (by simp) (by simp) o
  rw [hv] at ld
  have hcv := fun x hx => conv_int (h := hx) (k' := .i64) (n := x) Try.underlying3 Try.underlying23
  have hcv2 := fun x hx => conv_int (h := hx) (k' := .u32) (n := x) Try.underlying23 Try.underlying3
  have c1 := c.alloc [.int .u32 0] 23
  have p := c1.put iU32 rfl 0 (by simp) (v := .int .u32 (IntKind.u32.wrap v0)) rfl rfl
  have p1 := p.1
  repeat (first | (with_reducible refine Wp.st ?_; simp only [wS]) | with_reducible refine Wp.drawS (by decide +kernel) ?_ | simp (disch := (first | (simp only [List.length_set, hl]; omega) | omega | rfl)) only [walkA, walkB, bne_self_eq_false, beq_self_eq_true, Option.map_some, Option.map_none, reduceIte, decide_true, decide_false, Int.reduceLT, Int.reduceLE, Int.reduceMul, Int.reduceAdd, Int.reduceSub, h0, h1, h2, h3, faC1, lw, pw_nn])
  refine Wp.cond_false (by first | ((simp (disch := (first | (simp only [List.length_set, hl]; omega) | omega | rfl)) only [sL, aEval_tmp]); done) | ((simp (disch := (first | (simp only [List.length_set, hl]; omega) | omega | rfl)) only [sL, aEval_tmp]); rfl)) ?_
  repeat (first | (with_reducible refine Wp.st ?_; simp only [wS]) | with_reducible refine Wp.drawS (by decide +kernel) ?_ | simp (disch := (first | (simp only [List.length_set, hl]; omega) | omega | rfl)) only [walkA, walkB, bne_self_eq_false, beq_self_eq_true, Option.map_some, Option.map_none, reduceIte, decide_true, decide_false, Int.reduceLT, Int.reduceLE, Int.reduceMul, Int.reduceAdd, Int.reduceSub, h0, h1, h2, h3, ld, hcv, alU32, p1, bp32])
  refine (u32R1 p.2 0 (by simp)).mono ?_
  intro v hh q
  rw [q.1]
  have c2 := q.2
  clear q p p1 c1
  obtain ⟨hr1, hr2⟩ := rNum_le bs c.byte s
  have w2 : IntKind.i64.wrap (rNum bs 4 s).1 = (rNum bs 4 s).1 := wrap_i64 (by omega) (by omega)
  have lw2 := c2.lw
  have ld2 := c2.ld Try.underlying23 (by simp) (by simp) 0
  rw [List.getElem?_set_self (by simp)] at ld2
  have p := c2.swap.put i3' rfl o ho (v := .int .i64 (rNum bs 4 s).1) rfl rfl
  have p1 := p.1
  have ld3 := p.2.ld Try.underlying3 (by simp) (by simp) o
  rw [List.getElem?_set_self ho] at ld3
  repeat (first | (with_reducible refine Wp.st ?_; simp only [wS]) | with_reducible refine Wp.drawS (by decide +kernel) ?_ | simp (disch := (first | (simp only [List.length_set, hl]; omega) | omega | rfl)) only [walkA, walkB, bne_self_eq_false, beq_self_eq_true, Option.map_some, Option.map_none, reduceIte, decide_true, decide_false, Int.reduceLT, Int.reduceLE, Int.reduceMul, Int.reduceAdd, Int.reduceSub, h0, h1, h2, h3, faC1, lw2, pw_en])
  refine Wp.cond_true (by first | ((simp (disch := (first | (simp only [List.length_set, hl]; omega) | omega | rfl)) only [sL, aEval_tmp]); done) | ((simp (disch := (first | (simp only [List.length_set, hl]; omega) | omega | rfl)) only [sL, aEval_tmp]); rfl)) ?_
  have fin : ∀ (h2 : Heap) (b2 : Bool), CR Z H0 h2 kc kr bv bs (rNum bs 4 s).2 b2 ((kt, cs.set o (.int .i64 (rNum bs 4 s).1), T) :: (h.next, [.int .u32 (IntKind.u32.wrap v0)].set 0 (.int .u32 (rNum bs 4 s).1), 23) :: L) → CR Z H0 h2 kc kr bv bs (rNum bs 4 s).2 b2 ((kt, cs.set o (.int .i64 (rNum bs 4 s).1), T) :: L) := fun h2 b2 c => c.swap.drop
  by_cases hf : from' ≤ (rNum bs 4 s).1
  · have d1 : decide ((rNum bs 4 s).1 ≥ from') = true := decide_eq_true hf
    repeat (first | (with_reducible refine Wp.st ?_; simp only [wS]) | with_reducible refine Wp.drawS (by decide +kernel) ?_ | simp (disch := (first | (simp only [List.length_set, hl]; omega) | omega | rfl)) only [walkA, walkB, bne_self_eq_false, beq_self_eq_true, Option.map_some, Option.map_none, reduceIte, decide_true, decide_false, Int.reduceLT, Int.reduceLE, Int.reduceMul, Int.reduceAdd, Int.reduceSub, h0, h1, h2, h3, ld2, hcv2, w2, p1, ld3, d1])
    refine (must_am (decide ((rNum bs 4 s).1 ≤ to)) bad _ _ Z H0 _ kc _ p.2.st).mono ?_
    intro v h4 q
    rw [q.1]
    repeat (first | (with_reducible refine Wp.st ?_; simp only [wS]) | with_reducible refine Wp.drawS (by decide +kernel) ?_ | simp (disch := (first | (simp only [List.length_set, hl]; omega) | omega | rfl)) only [walkA, walkB, bne_self_eq_false, beq_self_eq_true, Option.map_some, Option.map_none, reduceIte, decide_true, decide_false, Int.reduceLT, Int.reduceLE, Int.reduceMul, Int.reduceAdd, Int.reduceSub, h0])
    simp only [aRes_none Try.results57]
    refine ⟨trivial, ?_⟩
    have e : (pNum bs o from' to ⟨s, bad, cs⟩) = ⟨(rNum bs 4 s).2, bad || !(decide ((rNum bs 4 s).1 ≤ to)), cs.set o (.int .i64 (rNum bs 4 s).1)⟩ := by simp [pNum, hf]
    rw [e]
    exact (p.2.bad' q.2).swap.drop
  · have d1 : decide ((rNum bs 4 s).1 ≥ from') = false := decide_eq_false hf
    repeat (first | (with_reducible refine Wp.st ?_; simp only [wS]) | with_reducible refine Wp.drawS (by decide +kernel) ?_ | simp (disch := (first | (simp only [List.length_set, hl]; omega) | omega | rfl)) only [walkA, walkB, bne_self_eq_false, beq_self_eq_true, Option.map_some, Option.map_none, reduceIte, decide_true, decide_false, Int.reduceLT, Int.reduceLE, Int.reduceMul, Int.reduceAdd, Int.reduceSub, h0, h1, h2, h3, ld2, hcv2, w2, p1, ld3, d1])
    refine (must_am false bad _ _ Z H0 _ kc _ p.2.st).mono ?_
    intro v h4 q
    rw [q.1]
    repeat (first | (with_reducible refine Wp.st ?_; simp only [wS]) | with_reducible refine Wp.drawS (by decide +kernel) ?_ | simp (disch := (first | (simp only [List.length_set, hl]; omega) | omega | rfl)) only [walkA, walkB, bne_self_eq_false, beq_self_eq_true, Option.map_some, Option.map_none, reduceIte, decide_true, decide_false, Int.reduceLT, Int.reduceLE, Int.reduceMul, Int.reduceAdd, Int.reduceSub, h0])
    simp only [aRes_none Try.results57]
    refine ⟨trivial, ?_⟩
    have e : (pNum bs o from' to ⟨s, bad, cs⟩) = ⟨(rNum bs 4 s).2, bad || !false, cs.set o (.int .i64 (rNum bs 4 s).1)⟩ := by simp [pNum, hf]
    rw [e]
    exact (p.2.bad' q.2).swap.drop
theorem rowR_am (s : Nat × Int) (bad : Bool) (cs : List Value) (o : Nat) (most : Int) (c : CR Z H0 h kc kr bv bs s bad ((kt, cs, T) :: L)) (ho : o < cs.length) :
    Cl Try.prog 58 [pt kc 0, pt kt o, .int .i64 most] h fun v h' => v = .tuple #[] ∧ ∃ out, CR Z H0 h' kc kr bv bs (rBytes bs most s).2 bad ((kt, cs.set o out, T) :: L) ∧ OutB h h' out (rBytes bs most s).1 := by
  refine Cl.enter Try.func58 rfl 36 Try.ntmps58 (by simp) ?_
  intro env hl ha
  have h0 : sl env 0 = pt kc 0 := ha 0 (by simp)
  have h1 : sl env 1 = pt kt o := ha 1 (by simp)
  have h2 : sl env 2 = .int .i64 most := ha 2 (by simp)
  clear ha
  have lw := c.lw
  have lr := c.lr
  repeat (first | (with_reducible refine Wp.st ?_; simp only [wS]) | with_reducible refine Wp.drawS (by decide +kernel) ?_ | simp (disch := (first | (simp only [List.length_set, hl]; omega) | omega | rfl)) only [walkA, walkB, bne_self_eq_false, beq_self_eq_true, Option.map_some, Option.map_none, reduceIte, decide_true, decide_false, Int.reduceLT, Int.reduceLE, Int.reduceMul, Int.reduceAdd, Int.reduceSub, h0, h1, h2, faC1, lw, pw_en])
  refine Wp.cond_true (by first | ((simp (disch := (first | (simp only [List.length_set, hl]; omega) | omega | rfl)) only [sL, aEval_tmp]); done) | ((simp (disch := (first | (simp only [List.length_set, hl]; omega) | omega | rfl)) only [sL, aEval_tmp]); rfl)) ?_
  repeat (first | (with_reducible refine Wp.st ?_; simp only [wS]) | with_reducible refine Wp.drawS (by decide +kernel) ?_ | simp (disch := (first | (simp only [List.length_set, hl]; omega) | omega | rfl)) only [walkA, walkB, bne_self_eq_false, beq_self_eq_true, Option.map_some, Option.map_none, reduceIte, decide_true, decide_false, Int.reduceLT, Int.reduceLE, Int.reduceMul, Int.reduceAdd, Int.reduceSub, h0, h1, h2, faC0, lr])
  refine (rBytes_am most kr _ bv bs s h c.rd).mono ?_
  intro v h1' q
  obtain ⟨ob, r, hs⟩ := q
  have c1 := c.read r hs
  have hkl : kt < h.next := Heap.get_lt c.st.rot3'.hd
  have pp : ∃ a n d, v = .slice a n d := buf_slice ob.1
  have p : aStore Try.prog h1' 22 (pt kt o) v = some (h1'.set kt (.cells (cs.set o v) T false)) ∧ CR Z H0 (h1'.set kt (.cells (cs.set o v) T false)) kc kr bv bs (rBytes bs most s).2 bad ((kt, cs.set o v, T) :: L) := by
    obtain ⟨a, n, d, rfl⟩ := pp
    exact c1.put iRow rfl o ho rfl rfl
  have p1 := p.1
  repeat (first | (with_reducible refine Wp.st ?_; simp only [wS]) | with_reducible refine Wp.drawS (by decide +kernel) ?_ | simp (disch := (first | (simp only [List.length_set, hl]; omega) | omega | rfl)) only [walkA, walkB, bne_self_eq_false, beq_self_eq_true, Option.map_some, Option.map_none, reduceIte, decide_true, decide_false, Int.reduceLT, Int.reduceLE, Int.reduceMul, Int.reduceAdd, Int.reduceSub, h0, h1, h2, p1])
  simp only [aRes_none Try.results58]
  refine ⟨trivial, v, p.2, ob.1.same (Same.set1 h1' kt _) (fun j hj x => ?_), ob.2⟩
  have e : j = kt := x
  have := ob.2 j hj
  omega
theorem textR_am (x : RS) (o : Nat) (most : Int) (s0 : ByteArray) (c : CRS Z H0 h kc kr bv bs x kt T L) (hv : x.cs[o]? = some (.string s0)) (hs0 : s0.size ≤ 1000000000) :
    Cl Try.prog 51 [pt kc 0, pt kt o, .int .i64 most] h fun v h' => v = .tuple #[] ∧ CRS Z H0 h' kc kr bv bs (pText bs o most x) kt T L := by
  obtain ⟨s, bad, cs⟩ := x
  have c : CR Z H0 h kc kr bv bs s bad ((kt, cs, T) :: L) := c
  have hv : cs[o]? = some (.string s0) := hv
  have ho : o < cs.length := (List.getElem?_eq_some_iff.1 hv).1
  refine Cl.enter Try.func51 rfl 18 Try.ntmps51 (by simp) ?_
  intro env hl ha
  have h0 : sl env 0 = pt kc 0 := ha 0 (by simp)
  have h1 : sl env 1 = pt kt o := ha 1 (by simp)
  have h2 : sl env 2 = .int .i64 most := ha 2 (by simp)
  clear ha
  have ld := c.ld Try.underlying9 (by simp) (by simp) o
  rw [hv] at ld
  have cv := cvStr (h := h) hs0
  have c0 := c.same (Same.push h (.cells (s0.data.toList.map fun b => .int .u8 b.toNat) 5 false) noS)
  have c1 := c0.alloc [.slice none 0 0] 22
  have p := c1.put iRow rfl 0 (by simp) (v := .slice (some ⟨h.next, 0, none⟩) s0.size opnCap) rfl rfl
  have p1 := p.1
  repeat (first | (with_reducible refine Wp.st ?_; simp only [wS]) | with_reducible refine Wp.drawS (by decide +kernel) ?_ | simp (disch := (first | (simp only [List.length_set, hl]; omega) | omega | rfl)) only [walkA, walkB, bne_self_eq_false, beq_self_eq_true, Option.map_some, Option.map_none, reduceIte, decide_true, decide_false, Int.reduceLT, Int.reduceLE, Int.reduceMul, Int.reduceAdd, Int.reduceSub, h0, h1, h2, ld, cv, alRow, p1])
  refine (rowR_am Z H0 _ kc kr bv bs _ _ _ s bad _ 0 most p.2 (by simp)).mono ?_
  intro v hh q
  rw [q.1]
  obtain ⟨out, c2, ob⟩ := q.2
  clear q p p1 c1 c0
  have ld2 := c2.ld Try.underlying22 (by simp) (by simp) 0
  rw [List.getElem?_set_self (by simp)] at ld2
  have cv2 := conv_row ob.1.row (isB_ints' _)
  have p := c2.swap.put iStr rfl o ho (v := .string (strS ((rBytes bs most s).1.map (Value.int .u8)))) rfl rfl
  have p1 := p.1
  repeat (first | (with_reducible refine Wp.st ?_; simp only [wS]) | with_reducible refine Wp.drawS (by decide +kernel) ?_ | simp (disch := (first | (simp only [List.length_set, hl]; omega) | omega | rfl)) only [walkA, walkB, bne_self_eq_false, beq_self_eq_true, Option.map_some, Option.map_none, reduceIte, decide_true, decide_false, Int.reduceLT, Int.reduceLE, Int.reduceMul, Int.reduceAdd, Int.reduceSub, h0, h1, h2, ld2, cv2, p1])
  simp only [aRes_none Try.results51]
  exact ⟨trivial, p.2.swap.drop⟩
theorem timeR_am (x : RS) (o : Nat) (c : CRS Z H0 h kc kr bv bs x kt T L) (ho : o + 1 < x.cs.length) :
    Cl Try.prog 54 [pt kc 0, pt kt o] h fun v h' => v = .tuple #[] ∧ CRS Z H0 h' kc kr bv bs (pTime bs o x) kt T L := by
  obtain ⟨s, bad, cs⟩ := x
  have c : CR Z H0 h kc kr bv bs s bad ((kt, cs, T) :: L) := c
  have ho : o + 1 < cs.length := ho
  refine Cl.enter Try.func54 rfl 13 Try.ntmps54 (by simp) ?_
  intro env hl ha
  have h0 : sl env 0 = pt kc 0 := ha 0 (by simp)
  have h1 : sl env 1 = pt kt o := ha 1 (by simp)
  clear ha
  repeat (first | (with_reducible refine Wp.st ?_; simp only [wS]) | with_reducible refine Wp.drawS (by decide +kernel) ?_ | simp (disch := (first | (simp only [List.length_set, hl]; omega) | omega | rfl)) only [walkA, walkB, bne_self_eq_false, beq_self_eq_true, Option.map_some, Option.map_none, reduceIte, decide_true, decide_false, Int.reduceLT, Int.reduceLE, Int.reduceMul, Int.reduceAdd, Int.reduceSub, h0, h1, faT0, faT1, bp32'])
  refine (u32R2 c o (o + 1) (by omega) ho).mono ?_
  intro v hh q
  rw [q.1]
  repeat (first | (with_reducible refine Wp.st ?_; simp only [wS]) | with_reducible refine Wp.drawS (by decide +kernel) ?_ | simp (disch := (first | (simp only [List.length_set, hl]; omega) | omega | rfl)) only [walkA, walkB, bne_self_eq_false, beq_self_eq_true, Option.map_some, Option.map_none, reduceIte, decide_true, decide_false, Int.reduceLT, Int.reduceLE, Int.reduceMul, Int.reduceAdd, Int.reduceSub, h0])
  simp only [aRes_none Try.results54]
  exact ⟨trivial, q.2⟩
end
end Go.Proofs.Ytanknjpcgceccaa

namespace Go.Proofs.Ytanknjpcgceccaa
open Go Go.AM
set_option linter.unusedSimpArgs false
set_option maxRecDepth 100000
theorem setL_two (cs : List Value) (o : Nat) (a b : Value) : setL cs o [a, b] = (cs.set o a).set (o + 1) b := rfl
theorem iTime : Try.prog.info? 26 = some Try.t26 := by kernel_rfl
section
variable {Z : Nat → Prop} {H0 h : Heap} {L : List Blk} {kt o : Nat} {cs : List Value} {T : TypeId}
theorem St_two {a b : Value} (s : St Z H0 h ((kt, cs, T) :: L)) (ho : o + 1 < cs.length) (h1 : a.oneCell' = true) (h2 : b.oneCell' = true) :
    aStore Try.prog h 26 (pt kt o) (.agg #[a, b]) = some (h.set kt (.cells ((cs.set o a).set (o + 1) b) T false)) ∧ St Z H0 (h.set kt (.cells ((cs.set o a).set (o + 1) b) T false)) ((kt, (cs.set o a).set (o + 1) b, T) :: L) := by
  have e1 : (Value.agg #[a, b]).cells = #[a, b] := rfl
  have e2 : Nat.ble (o + 2) cs.length = true := ble_iff.2 (by omega)
  have e3 : (Try.t26).size = 2 := rfl
  refine ⟨?_, s.upd (Same.set1 _ _ _) (Heap.get_set_eq s.hd)⟩
  simp [aStore, iTime, e1, e2, e3, wrN, s.hd, h1, h2, setL_two]
end
section
variable {bs : List Int} {x : RS} {o p : Nat} {f : RS → RS}
theorem pBool_len : (pBool bs o x).cs.length = x.cs.length := by simp [pBool]
theorem pNum_len {a b : Int} : (pNum bs o a b x).cs.length = x.cs.length := by simp [pNum]
theorem pU32_len : (pU32 bs o x).cs.length = x.cs.length := by simp [pU32]
theorem pU64_len : (pU64 bs o x).cs.length = x.cs.length := by simp [pU64]
theorem pText_len {m : Int} : (pText bs o m x).cs.length = x.cs.length := by simp [pText]
theorem pTime_len : (pTime bs o x).cs.length = x.cs.length := by simp [pTime, pU32]
theorem pNoTime_len : (pNoTime o x).cs.length = x.cs.length := by simp [pNoTime]
theorem pHow_len : (pHow bs o p x).cs.length = x.cs.length := by
  unfold pHow; split
  · rw [pTime_len, pNum_len]
  · rw [pNoTime_len, pNum_len]
theorem pIf_len (hf : ∀ y, (f y).cs.length = y.cs.length) : (pIf bs o f x).cs.length = x.cs.length := by
  unfold pIf; split
  · rw [hf, pBool_len]
  · exact pBool_len
theorem pIf_get (hf : ∀ y : RS, (f y).cs[p]? = y.cs[p]?) (hp : o ≠ p) : (pIf bs o f x).cs[p]? = x.cs[p]? := by
  have e : (pBool bs o x).cs[p]? = x.cs[p]? := by simp only [pBool]; rw [List.getElem?_set_ne hp]
  unfold pIf; split
  · rw [hf, e]
  · exact e
theorem pNum_get {a b : Int} (hp : o ≠ p) : (pNum bs o a b x).cs[p]? = x.cs[p]? := by simp only [pNum]; rw [List.getElem?_set_ne hp]
theorem pU32_get (hp : o ≠ p) : (pU32 bs o x).cs[p]? = x.cs[p]? := by simp only [pU32]; rw [List.getElem?_set_ne hp]
theorem pU64_get (hp : o ≠ p) : (pU64 bs o x).cs[p]? = x.cs[p]? := by simp only [pU64]; rw [List.getElem?_set_ne hp]
theorem pBool_get (hp : o ≠ p) : (pBool bs o x).cs[p]? = x.cs[p]? := by simp only [pBool]; rw [List.getElem?_set_ne hp]
theorem pText_get {m : Int} (hp : o ≠ p) : (pText bs o m x).cs[p]? = x.cs[p]? := by simp only [pText]; rw [List.getElem?_set_ne hp]
theorem pTime_get (hp : o ≠ p) (hp2 : o + 1 ≠ p) : (pTime bs o x).cs[p]? = x.cs[p]? := by simp only [pTime]; rw [pU32_get hp2, pU32_get hp]
theorem pNoTime_get (hp : o ≠ p) (hp2 : o + 1 ≠ p) : (pNoTime o x).cs[p]? = x.cs[p]? := by simp only [pNoTime]; rw [List.getElem?_set_ne hp2, List.getElem?_set_ne hp]
theorem pHow_get {t : Nat} (hp : o ≠ p) (h1 : t ≠ p) (h2 : t + 1 ≠ p) : (pHow bs o t x).cs[p]? = x.cs[p]? := by
  unfold pHow; split
  · rw [pTime_get h1 h2, pNum_get hp]
  · rw [pNoTime_get h1 h2, pNum_get hp]
end
section
variable (Z : Nat → Prop) (H0 h : Heap) (kc kr : Nat) (bv : Value) (bs : List Int) (kt : Nat) (T : TypeId) (L : List Blk)
theorem truthRS_am (x : RS) (o : Nat) (c : CRS Z H0 h kc kr bv bs x kt T L) (ho : o < x.cs.length) :
    Cl Try.prog 53 [pt kc 0, pt kt o] h fun v h' => v = .bool (rBool bs x.s).1 ∧ CRS Z H0 h' kc kr bv bs (pBool bs o x) kt T L :=
  truthR_am Z H0 h kc kr bv bs x.s x.bad L kt o x.cs T c ho
theorem howR_am (x : RS) (o t : Nat) (v0 : Int) (c : CRS Z H0 h kc kr bv bs x kt T L) (hv : x.cs[o]? = some (.int .i64 v0)) (ht : t + 1 < x.cs.length) :
    Cl Try.prog 74 [pt kc 0, pt kt o, pt kt t] h fun v h' => v = .tuple #[] ∧ CRS Z H0 h' kc kr bv bs (pHow bs o t x) kt T L := by
  have ho : o < x.cs.length := (List.getElem?_eq_some_iff.1 hv).1
  refine Cl.enter Try.func74 rfl 19 Try.ntmps74 (by simp) ?_
  intro env hl ha
  have h0 : sl env 0 = pt kc 0 := ha 0 (by simp)
  have h1 : sl env 1 = pt kt o := ha 1 (by simp)
  have h2 : sl env 2 = pt kt t := ha 2 (by simp)
  clear ha
  repeat (first | (with_reducible refine Wp.st ?_; simp only [wS]) | with_reducible refine Wp.drawS (by decide +kernel) ?_ | simp (disch := (first | (simp only [List.length_set, hl]; omega) | omega | rfl)) only [walkA, walkB, bne_self_eq_false, beq_self_eq_true, Option.map_some, Option.map_none, reduceIte, decide_true, decide_false, Int.reduceLT, Int.reduceLE, Int.reduceMul, Int.reduceAdd, Int.reduceSub, h0, h1, h2])
  refine (numR_am Z H0 _ kc kr bv bs kt T L x o 0 2 v0 c hv).mono ?_
  intro v h3 q
  rw [q.1]
  have c1 := q.2
  clear q
  have ld := CR.ld c1 Try.underlying3 (by simp) (by simp) o
  have e1 : (pNum bs o 0 2 x).cs[o]? = some (.int .i64 (rNum bs 4 x.s).1) := by simp only [pNum]; rw [List.getElem?_set_self ho]
  rw [e1] at ld
  by_cases h2' : (rNum bs 4 x.s).1 = 2
  · have d : ((rNum bs 4 x.s).1 == 2) = true := by simpa using h2'
    repeat (first | (with_reducible refine Wp.st ?_; simp only [wS]) | with_reducible refine Wp.drawS (by decide +kernel) ?_ | simp (disch := (first | (simp only [List.length_set, hl]; omega) | omega | rfl)) only [walkA, walkB, bne_self_eq_false, beq_self_eq_true, Option.map_some, Option.map_none, reduceIte, decide_true, decide_false, Int.reduceLT, Int.reduceLE, Int.reduceMul, Int.reduceAdd, Int.reduceSub, h0, h1, h2, ld, d])
    refine Wp.cond_true (by first | ((simp (disch := (first | (simp only [List.length_set, hl]; omega) | omega | rfl)) only [sL, aEval_tmp]); done) | ((simp (disch := (first | (simp only [List.length_set, hl]; omega) | omega | rfl)) only [sL, aEval_tmp]); rfl)) ?_
    repeat (first | (with_reducible refine Wp.st ?_; simp only [wS]) | with_reducible refine Wp.drawS (by decide +kernel) ?_ | simp (disch := (first | (simp only [List.length_set, hl]; omega) | omega | rfl)) only [walkA, walkB, bne_self_eq_false, beq_self_eq_true, Option.map_some, Option.map_none, reduceIte, decide_true, decide_false, Int.reduceLT, Int.reduceLE, Int.reduceMul, Int.reduceAdd, Int.reduceSub, h0, h1, h2])
    refine (timeR_am Z H0 _ kc kr bv bs kt T L _ t c1 (by rw [pNum_len]; exact ht)).mono ?_
    intro v h4 q
    rw [q.1]
    repeat (first | (with_reducible refine Wp.st ?_; simp only [wS]) | with_reducible refine Wp.drawS (by decide +kernel) ?_ | simp (disch := (first | (simp only [List.length_set, hl]; omega) | omega | rfl)) only [walkA, walkB, bne_self_eq_false, beq_self_eq_true, Option.map_some, Option.map_none, reduceIte, decide_true, decide_false, Int.reduceLT, Int.reduceLE, Int.reduceMul, Int.reduceAdd, Int.reduceSub, h0])
    simp only [aRes_none Try.results74]
    refine ⟨trivial, ?_⟩
    have e : pHow bs o t x = pTime bs t (pNum bs o 0 2 x) := by unfold pHow; rw [if_pos h2']
    rw [e]; exact q.2
  · have d : ((rNum bs 4 x.s).1 == 2) = false := by simpa using h2'
    have p := St_two c1.st.rot3' (by rw [pNum_len]; exact ht) (a := .int .u32 0) (b := .int .u32 0) rfl rfl
    have p1 := p.1
    repeat (first | (with_reducible refine Wp.st ?_; simp only [wS]) | with_reducible refine Wp.drawS (by decide +kernel) ?_ | simp (disch := (first | (simp only [List.length_set, hl]; omega) | omega | rfl)) only [walkA, walkB, bne_self_eq_false, beq_self_eq_true, Option.map_some, Option.map_none, reduceIte, decide_true, decide_false, Int.reduceLT, Int.reduceLE, Int.reduceMul, Int.reduceAdd, Int.reduceSub, h0, h1, h2, ld, d])
    refine Wp.cond_false (by first | ((simp (disch := (first | (simp only [List.length_set, hl]; omega) | omega | rfl)) only [sL, aEval_tmp]); done) | ((simp (disch := (first | (simp only [List.length_set, hl]; omega) | omega | rfl)) only [sL, aEval_tmp]); rfl)) ?_
    repeat (first | (with_reducible refine Wp.st ?_; simp only [wS]) | with_reducible refine Wp.drawS (by decide +kernel) ?_ | simp (disch := (first | (simp only [List.length_set, hl]; omega) | omega | rfl)) only [walkA, walkB, bne_self_eq_false, beq_self_eq_true, Option.map_some, Option.map_none, reduceIte, decide_true, decide_false, Int.reduceLT, Int.reduceLE, Int.reduceMul, Int.reduceAdd, Int.reduceSub, h0, h1, h2, bTime, p1])
    simp only [aRes_none Try.results74]
    refine ⟨trivial, ?_⟩
    have e : pHow bs o t x = pNoTime t (pNum bs o 0 2 x) := by unfold pHow; rw [if_neg h2']
    rw [e]
    exact ⟨p.2.rot3, c1.row, c1.z, c1.len, c1.pos, c1.byte⟩
def SQ (N : Nat) (kc kt o : Nat) (A : Heap → Prop) : AX → List Value → Heap → Prop := fun ax e h' => ax = .normal ∧ e.length = N ∧ sl e 0 = pt kc 0 ∧ sl e 1 = pt kt o ∧ A h'
set_option maxHeartbeats 2000000 in
theorem setR_am (x : RS) (o : Nat) (c : CRS Z H0 h kc kr bv bs x kt T L) (hl0 : o + 14 ≤ x.cs.length) (hM : ∃ v, x.cs[o + 4]? = some (.int .i64 v)) (h8 : ∃ v, x.cs[o + 8]? = some (.int .i64 v)) (h9 : ∃ v, x.cs[o + 9]? = some (.int .i64 v)) :
    Cl Try.prog 52 [pt kc 0, pt kt o] h fun v h' => v = .tuple #[] ∧ CRS Z H0 h' kc kr bv bs (pSet bs o x) kt T L := by
  refine Cl.enter Try.func52 rfl 63 Try.ntmps52 (by simp) ?_
  intro env hl ha
  have h0 : sl env 0 = pt kc 0 := ha 0 (by simp)
  have h1 : sl env 1 = pt kt o := ha 1 (by simp)
  clear ha
  obtain ⟨vM, hM⟩ := hM
  obtain ⟨v8, h8⟩ := h8
  obtain ⟨v9, h9⟩ := h9
  unfold pSet
  repeat (first | (with_reducible refine Wp.st ?_; simp only [wS]) | with_reducible refine Wp.drawS (by decide +kernel) ?_ | simp (disch := (first | (simp only [List.length_set, hl]; omega) | omega | rfl)) only [walkA, walkB, bne_self_eq_false, beq_self_eq_true, Option.map_some, Option.map_none, reduceIte, decide_true, decide_false, Int.reduceLT, Int.reduceLE, Int.reduceMul, Int.reduceAdd, Int.reduceSub, h0, h1, faS0])
  refine (truthRS_am Z H0 _ kc kr bv bs kt T L x o c (by omega)).mono ?_
  intro v ha q
  rw [q.1]
  have c1 := q.2
  clear q
  repeat (first | (with_reducible refine Wp.st ?_; simp only [wS]) | with_reducible refine Wp.drawS (by decide +kernel) ?_ | simp (disch := (first | (simp only [List.length_set, hl]; omega) | omega | rfl)) only [walkA, walkB, bne_self_eq_false, beq_self_eq_true, Option.map_some, Option.map_none, reduceIte, decide_true, decide_false, Int.reduceLT, Int.reduceLE, Int.reduceMul, Int.reduceAdd, Int.reduceSub, h0, h1])
  refine Wp.mono (Q := SQ 63 kc kt o fun h' => CRS Z H0 h' kc kr bv bs (pIf bs o (pNum bs (o + 4) 0 4294967295) x) kt T L) ?_ ?_
  · cases hb : (rBool bs x.s).1 with
    | true =>
      have e1 : pIf bs o (pNum bs (o + 4) 0 4294967295) x = pNum bs (o + 4) 0 4294967295 (pBool bs o x) := by unfold pIf; rw [if_pos hb]
      rw [e1]
      refine Wp.cond_true (by first | ((simp (disch := (first | (simp only [List.length_set, hl]; omega) | omega | rfl)) only [sL, aEval_tmp]); done) | ((simp (disch := (first | (simp only [List.length_set, hl]; omega) | omega | rfl)) only [sL, aEval_tmp]); rfl)) ?_
      repeat (first | (with_reducible refine Wp.st ?_; simp only [wS]) | with_reducible refine Wp.drawS (by decide +kernel) ?_ | simp (disch := (first | (simp only [List.length_set, hl]; omega) | omega | rfl)) only [walkA, walkB, bne_self_eq_false, beq_self_eq_true, Option.map_some, Option.map_none, reduceIte, decide_true, decide_false, Int.reduceLT, Int.reduceLE, Int.reduceMul, Int.reduceAdd, Int.reduceSub, h0, h1, faS4])
      refine (numR_am Z H0 _ kc kr bv bs kt T L _ (o + 4) 0 4294967295 vM c1 (by rw [pBool_get (by omega)]; exact hM)).mono ?_
      intro v hc q
      rw [q.1]
      repeat (first | (with_reducible refine Wp.st ?_; simp only [wS]) | with_reducible refine Wp.drawS (by decide +kernel) ?_ | simp (disch := (first | (simp only [List.length_set, hl]; omega) | omega | rfl)) only [walkA, walkB, bne_self_eq_false, beq_self_eq_true, Option.map_some, Option.map_none, reduceIte, decide_true, decide_false, Int.reduceLT, Int.reduceLE, Int.reduceMul, Int.reduceAdd, Int.reduceSub, h0, h1])
      exact ⟨rfl, by simp [hl], (by first | ((simp (disch := (first | (simp only [List.length_set, hl]; omega) | omega | rfl)) only [sL, h0]); done) | rfl | trivial | ((simp (disch := (first | (simp only [List.length_set, hl]; omega) | omega | rfl)) only [sL, h0]); rfl)), (by first | ((simp (disch := (first | (simp only [List.length_set, hl]; omega) | omega | rfl)) only [sL, h1]); done) | rfl | trivial | ((simp (disch := (first | (simp only [List.length_set, hl]; omega) | omega | rfl)) only [sL, h1]); rfl)), q.2⟩
    | false =>
      have e1 : pIf bs o (pNum bs (o + 4) 0 4294967295) x = pBool bs o x := by unfold pIf; rw [if_neg (by simp [hb])]
      rw [e1]
      refine Wp.cond_false (by first | ((simp (disch := (first | (simp only [List.length_set, hl]; omega) | omega | rfl)) only [sL, aEval_tmp]); done) | ((simp (disch := (first | (simp only [List.length_set, hl]; omega) | omega | rfl)) only [sL, aEval_tmp]); rfl)) ?_
      repeat (first | (with_reducible refine Wp.st ?_; simp only [wS]) | with_reducible refine Wp.drawS (by decide +kernel) ?_ | simp (disch := (first | (simp only [List.length_set, hl]; omega) | omega | rfl)) only [walkA, walkB, bne_self_eq_false, beq_self_eq_true, Option.map_some, Option.map_none, reduceIte, decide_true, decide_false, Int.reduceLT, Int.reduceLE, Int.reduceMul, Int.reduceAdd, Int.reduceSub, h0, h1])
      exact ⟨rfl, by simp [hl], (by first | ((simp (disch := (first | (simp only [List.length_set, hl]; omega) | omega | rfl)) only [sL, h0]); done) | rfl | trivial | ((simp (disch := (first | (simp only [List.length_set, hl]; omega) | omega | rfl)) only [sL, h0]); rfl)), (by first | ((simp (disch := (first | (simp only [List.length_set, hl]; omega) | omega | rfl)) only [sL, h1]); done) | rfl | trivial | ((simp (disch := (first | (simp only [List.length_set, hl]; omega) | omega | rfl)) only [sL, h1]); rfl)), c1⟩
  have m0 : o + 14 ≤ (pIf bs o (pNum bs (o + 4) 0 4294967295) x).cs.length := by rw [pIf_len (fun _ => pNum_len)]; exact hl0
  have m8 : (pIf bs o (pNum bs (o + 4) 0 4294967295) x).cs[o + 8]? = some (.int .i64 v8) := by rw [pIf_get (fun _ => pNum_get (by omega)) (by omega)]; exact h8
  have m9 : (pIf bs o (pNum bs (o + 4) 0 4294967295) x).cs[o + 9]? = some (.int .i64 v9) := by rw [pIf_get (fun _ => pNum_get (by omega)) (by omega)]; exact h9
  generalize pIf bs o (pNum bs (o + 4) 0 4294967295) x = y at m0 m8 m9 ⊢
  clear h0 h1 hl c c1 hl0 h8 h9 ha hM vM
  clear env x
  intro ax env h q
  obtain ⟨hax, hl, h0, h1, c⟩ := q
  rw [hax]
  have hl0 := m0
  have h8 := m8
  have h9 := m9
  clear m0 m8 m9 hax
  revert y
  intro x c hl0 h8 h9
  repeat (first | (with_reducible refine Wp.st ?_; simp only [wS]) | with_reducible refine Wp.drawS (by decide +kernel) ?_ | simp (disch := (first | (simp only [List.length_set, hl]; omega) | omega | rfl)) only [walkA, walkB, bne_self_eq_false, beq_self_eq_true, Option.map_some, Option.map_none, reduceIte, decide_true, decide_false, Int.reduceLT, Int.reduceLE, Int.reduceMul, Int.reduceAdd, Int.reduceSub, h0, h1, faS1])
  refine (truthRS_am Z H0 _ kc kr bv bs kt T L x (o + 1) c (by omega)).mono ?_
  intro v ha q
  rw [q.1]
  have c1 := q.2
  clear q
  repeat (first | (with_reducible refine Wp.st ?_; simp only [wS]) | with_reducible refine Wp.drawS (by decide +kernel) ?_ | simp (disch := (first | (simp only [List.length_set, hl]; omega) | omega | rfl)) only [walkA, walkB, bne_self_eq_false, beq_self_eq_true, Option.map_some, Option.map_none, reduceIte, decide_true, decide_false, Int.reduceLT, Int.reduceLE, Int.reduceMul, Int.reduceAdd, Int.reduceSub, h0, h1])
  refine Wp.mono (Q := SQ 63 kc kt o fun h' => CRS Z H0 h' kc kr bv bs (pIf bs (o + 1) (pU32 bs (o + 5)) x) kt T L) ?_ ?_
  · cases hb : (rBool bs x.s).1 with
    | true =>
      have e1 : pIf bs (o + 1) (pU32 bs (o + 5)) x = pU32 bs (o + 5) (pBool bs (o + 1) x) := by unfold pIf; rw [if_pos hb]
      rw [e1]
      refine Wp.cond_true (by first | ((simp (disch := (first | (simp only [List.length_set, hl]; omega) | omega | rfl)) only [sL, aEval_tmp]); done) | ((simp (disch := (first | (simp only [List.length_set, hl]; omega) | omega | rfl)) only [sL, aEval_tmp]); rfl)) ?_
      repeat (first | (with_reducible refine Wp.st ?_; simp only [wS]) | with_reducible refine Wp.drawS (by decide +kernel) ?_ | simp (disch := (first | (simp only [List.length_set, hl]; omega) | omega | rfl)) only [walkA, walkB, bne_self_eq_false, beq_self_eq_true, Option.map_some, Option.map_none, reduceIte, decide_true, decide_false, Int.reduceLT, Int.reduceLE, Int.reduceMul, Int.reduceAdd, Int.reduceSub, h0, h1, faS5, bp32])
      refine (u32R1 c1 (o + 5) (by rw [pBool_len]; omega)).mono ?_
      intro v hc q
      rw [q.1]
      repeat (first | (with_reducible refine Wp.st ?_; simp only [wS]) | with_reducible refine Wp.drawS (by decide +kernel) ?_ | simp (disch := (first | (simp only [List.length_set, hl]; omega) | omega | rfl)) only [walkA, walkB, bne_self_eq_false, beq_self_eq_true, Option.map_some, Option.map_none, reduceIte, decide_true, decide_false, Int.reduceLT, Int.reduceLE, Int.reduceMul, Int.reduceAdd, Int.reduceSub, h0, h1])
      exact ⟨rfl, by simp [hl], (by first | ((simp (disch := (first | (simp only [List.length_set, hl]; omega) | omega | rfl)) only [sL, h0]); done) | rfl | trivial | ((simp (disch := (first | (simp only [List.length_set, hl]; omega) | omega | rfl)) only [sL, h0]); rfl)), (by first | ((simp (disch := (first | (simp only [List.length_set, hl]; omega) | omega | rfl)) only [sL, h1]); done) | rfl | trivial | ((simp (disch := (first | (simp only [List.length_set, hl]; omega) | omega | rfl)) only [sL, h1]); rfl)), q.2⟩
    | false =>
      have e1 : pIf bs (o + 1) (pU32 bs (o + 5)) x = pBool bs (o + 1) x := by unfold pIf; rw [if_neg (by simp [hb])]
      rw [e1]
      refine Wp.cond_false (by first | ((simp (disch := (first | (simp only [List.length_set, hl]; omega) | omega | rfl)) only [sL, aEval_tmp]); done) | ((simp (disch := (first | (simp only [List.length_set, hl]; omega) | omega | rfl)) only [sL, aEval_tmp]); rfl)) ?_
      repeat (first | (with_reducible refine Wp.st ?_; simp only [wS]) | with_reducible refine Wp.drawS (by decide +kernel) ?_ | simp (disch := (first | (simp only [List.length_set, hl]; omega) | omega | rfl)) only [walkA, walkB, bne_self_eq_false, beq_self_eq_true, Option.map_some, Option.map_none, reduceIte, decide_true, decide_false, Int.reduceLT, Int.reduceLE, Int.reduceMul, Int.reduceAdd, Int.reduceSub, h0, h1])
      exact ⟨rfl, by simp [hl], (by first | ((simp (disch := (first | (simp only [List.length_set, hl]; omega) | omega | rfl)) only [sL, h0]); done) | rfl | trivial | ((simp (disch := (first | (simp only [List.length_set, hl]; omega) | omega | rfl)) only [sL, h0]); rfl)), (by first | ((simp (disch := (first | (simp only [List.length_set, hl]; omega) | omega | rfl)) only [sL, h1]); done) | rfl | trivial | ((simp (disch := (first | (simp only [List.length_set, hl]; omega) | omega | rfl)) only [sL, h1]); rfl)), c1⟩
  have m0 : o + 14 ≤ (pIf bs (o + 1) (pU32 bs (o + 5)) x).cs.length := by rw [pIf_len (fun _ => pU32_len)]; exact hl0
  have m8 : (pIf bs (o + 1) (pU32 bs (o + 5)) x).cs[o + 8]? = some (.int .i64 v8) := by rw [pIf_get (fun _ => pU32_get (by omega)) (by omega)]; exact h8
  have m9 : (pIf bs (o + 1) (pU32 bs (o + 5)) x).cs[o + 9]? = some (.int .i64 v9) := by rw [pIf_get (fun _ => pU32_get (by omega)) (by omega)]; exact h9
  generalize pIf bs (o + 1) (pU32 bs (o + 5)) x = y at m0 m8 m9 ⊢
  clear h0 h1 hl c c1 hl0 h8 h9 ha
  clear env x
  intro ax env h q
  obtain ⟨hax, hl, h0, h1, c⟩ := q
  rw [hax]
  have hl0 := m0
  have h8 := m8
  have h9 := m9
  clear m0 m8 m9 hax
  revert y
  intro x c hl0 h8 h9
  repeat (first | (with_reducible refine Wp.st ?_; simp only [wS]) | with_reducible refine Wp.drawS (by decide +kernel) ?_ | simp (disch := (first | (simp only [List.length_set, hl]; omega) | omega | rfl)) only [walkA, walkB, bne_self_eq_false, beq_self_eq_true, Option.map_some, Option.map_none, reduceIte, decide_true, decide_false, Int.reduceLT, Int.reduceLE, Int.reduceMul, Int.reduceAdd, Int.reduceSub, h0, h1, faS2])
  refine (truthRS_am Z H0 _ kc kr bv bs kt T L x (o + 2) c (by omega)).mono ?_
  intro v ha q
  rw [q.1]
  have c1 := q.2
  clear q
  repeat (first | (with_reducible refine Wp.st ?_; simp only [wS]) | with_reducible refine Wp.drawS (by decide +kernel) ?_ | simp (disch := (first | (simp only [List.length_set, hl]; omega) | omega | rfl)) only [walkA, walkB, bne_self_eq_false, beq_self_eq_true, Option.map_some, Option.map_none, reduceIte, decide_true, decide_false, Int.reduceLT, Int.reduceLE, Int.reduceMul, Int.reduceAdd, Int.reduceSub, h0, h1])
  refine Wp.mono (Q := SQ 63 kc kt o fun h' => CRS Z H0 h' kc kr bv bs (pIf bs (o + 2) (pU32 bs (o + 6)) x) kt T L) ?_ ?_
  · cases hb : (rBool bs x.s).1 with
    | true =>
      have e1 : pIf bs (o + 2) (pU32 bs (o + 6)) x = pU32 bs (o + 6) (pBool bs (o + 2) x) := by unfold pIf; rw [if_pos hb]
      rw [e1]
      refine Wp.cond_true (by first | ((simp (disch := (first | (simp only [List.length_set, hl]; omega) | omega | rfl)) only [sL, aEval_tmp]); done) | ((simp (disch := (first | (simp only [List.length_set, hl]; omega) | omega | rfl)) only [sL, aEval_tmp]); rfl)) ?_
      repeat (first | (with_reducible refine Wp.st ?_; simp only [wS]) | with_reducible refine Wp.drawS (by decide +kernel) ?_ | simp (disch := (first | (simp only [List.length_set, hl]; omega) | omega | rfl)) only [walkA, walkB, bne_self_eq_false, beq_self_eq_true, Option.map_some, Option.map_none, reduceIte, decide_true, decide_false, Int.reduceLT, Int.reduceLE, Int.reduceMul, Int.reduceAdd, Int.reduceSub, h0, h1, faS6, bp32])
      refine (u32R1 c1 (o + 6) (by rw [pBool_len]; omega)).mono ?_
      intro v hc q
      rw [q.1]
      repeat (first | (with_reducible refine Wp.st ?_; simp only [wS]) | with_reducible refine Wp.drawS (by decide +kernel) ?_ | simp (disch := (first | (simp only [List.length_set, hl]; omega) | omega | rfl)) only [walkA, walkB, bne_self_eq_false, beq_self_eq_true, Option.map_some, Option.map_none, reduceIte, decide_true, decide_false, Int.reduceLT, Int.reduceLE, Int.reduceMul, Int.reduceAdd, Int.reduceSub, h0, h1])
      exact ⟨rfl, by simp [hl], (by first | ((simp (disch := (first | (simp only [List.length_set, hl]; omega) | omega | rfl)) only [sL, h0]); done) | rfl | trivial | ((simp (disch := (first | (simp only [List.length_set, hl]; omega) | omega | rfl)) only [sL, h0]); rfl)), (by first | ((simp (disch := (first | (simp only [List.length_set, hl]; omega) | omega | rfl)) only [sL, h1]); done) | rfl | trivial | ((simp (disch := (first | (simp only [List.length_set, hl]; omega) | omega | rfl)) only [sL, h1]); rfl)), q.2⟩
    | false =>
      have e1 : pIf bs (o + 2) (pU32 bs (o + 6)) x = pBool bs (o + 2) x := by unfold pIf; rw [if_neg (by simp [hb])]
      rw [e1]
      refine Wp.cond_false (by first | ((simp (disch := (first | (simp only [List.length_set, hl]; omega) | omega | rfl)) only [sL, aEval_tmp]); done) | ((simp (disch := (first | (simp only [List.length_set, hl]; omega) | omega | rfl)) only [sL, aEval_tmp]); rfl)) ?_
      repeat (first | (with_reducible refine Wp.st ?_; simp only [wS]) | with_reducible refine Wp.drawS (by decide +kernel) ?_ | simp (disch := (first | (simp only [List.length_set, hl]; omega) | omega | rfl)) only [walkA, walkB, bne_self_eq_false, beq_self_eq_true, Option.map_some, Option.map_none, reduceIte, decide_true, decide_false, Int.reduceLT, Int.reduceLE, Int.reduceMul, Int.reduceAdd, Int.reduceSub, h0, h1])
      exact ⟨rfl, by simp [hl], (by first | ((simp (disch := (first | (simp only [List.length_set, hl]; omega) | omega | rfl)) only [sL, h0]); done) | rfl | trivial | ((simp (disch := (first | (simp only [List.length_set, hl]; omega) | omega | rfl)) only [sL, h0]); rfl)), (by first | ((simp (disch := (first | (simp only [List.length_set, hl]; omega) | omega | rfl)) only [sL, h1]); done) | rfl | trivial | ((simp (disch := (first | (simp only [List.length_set, hl]; omega) | omega | rfl)) only [sL, h1]); rfl)), c1⟩
  have m0 : o + 14 ≤ (pIf bs (o + 2) (pU32 bs (o + 6)) x).cs.length := by rw [pIf_len (fun _ => pU32_len)]; exact hl0
  have m8 : (pIf bs (o + 2) (pU32 bs (o + 6)) x).cs[o + 8]? = some (.int .i64 v8) := by rw [pIf_get (fun _ => pU32_get (by omega)) (by omega)]; exact h8
  have m9 : (pIf bs (o + 2) (pU32 bs (o + 6)) x).cs[o + 9]? = some (.int .i64 v9) := by rw [pIf_get (fun _ => pU32_get (by omega)) (by omega)]; exact h9
  generalize pIf bs (o + 2) (pU32 bs (o + 6)) x = y at m0 m8 m9 ⊢
  clear h0 h1 hl c c1 hl0 h8 h9 ha
  clear env x
  intro ax env h q
  obtain ⟨hax, hl, h0, h1, c⟩ := q
  rw [hax]
  have hl0 := m0
  have h8 := m8
  have h9 := m9
  clear m0 m8 m9 hax
  revert y
  intro x c hl0 h8 h9
  repeat (first | (with_reducible refine Wp.st ?_; simp only [wS]) | with_reducible refine Wp.drawS (by decide +kernel) ?_ | simp (disch := (first | (simp only [List.length_set, hl]; omega) | omega | rfl)) only [walkA, walkB, bne_self_eq_false, beq_self_eq_true, Option.map_some, Option.map_none, reduceIte, decide_true, decide_false, Int.reduceLT, Int.reduceLE, Int.reduceMul, Int.reduceAdd, Int.reduceSub, h0, h1, faS3])
  refine (truthRS_am Z H0 _ kc kr bv bs kt T L x (o + 3) c (by omega)).mono ?_
  intro v ha q
  rw [q.1]
  have c1 := q.2
  clear q
  repeat (first | (with_reducible refine Wp.st ?_; simp only [wS]) | with_reducible refine Wp.drawS (by decide +kernel) ?_ | simp (disch := (first | (simp only [List.length_set, hl]; omega) | omega | rfl)) only [walkA, walkB, bne_self_eq_false, beq_self_eq_true, Option.map_some, Option.map_none, reduceIte, decide_true, decide_false, Int.reduceLT, Int.reduceLE, Int.reduceMul, Int.reduceAdd, Int.reduceSub, h0, h1])
  refine Wp.mono (Q := SQ 63 kc kt o fun h' => CRS Z H0 h' kc kr bv bs (pIf bs (o + 3) (pU64 bs (o + 7)) x) kt T L) ?_ ?_
  · cases hb : (rBool bs x.s).1 with
    | true =>
      have e1 : pIf bs (o + 3) (pU64 bs (o + 7)) x = pU64 bs (o + 7) (pBool bs (o + 3) x) := by unfold pIf; rw [if_pos hb]
      rw [e1]
      refine Wp.cond_true (by first | ((simp (disch := (first | (simp only [List.length_set, hl]; omega) | omega | rfl)) only [sL, aEval_tmp]); done) | ((simp (disch := (first | (simp only [List.length_set, hl]; omega) | omega | rfl)) only [sL, aEval_tmp]); rfl)) ?_
      repeat (first | (with_reducible refine Wp.st ?_; simp only [wS]) | with_reducible refine Wp.drawS (by decide +kernel) ?_ | simp (disch := (first | (simp only [List.length_set, hl]; omega) | omega | rfl)) only [walkA, walkB, bne_self_eq_false, beq_self_eq_true, Option.map_some, Option.map_none, reduceIte, decide_true, decide_false, Int.reduceLT, Int.reduceLE, Int.reduceMul, Int.reduceAdd, Int.reduceSub, h0, h1, faS7, bp64])
      refine (u64R1 c1 (o + 7) (by rw [pBool_len]; omega)).mono ?_
      intro v hc q
      rw [q.1]
      repeat (first | (with_reducible refine Wp.st ?_; simp only [wS]) | with_reducible refine Wp.drawS (by decide +kernel) ?_ | simp (disch := (first | (simp only [List.length_set, hl]; omega) | omega | rfl)) only [walkA, walkB, bne_self_eq_false, beq_self_eq_true, Option.map_some, Option.map_none, reduceIte, decide_true, decide_false, Int.reduceLT, Int.reduceLE, Int.reduceMul, Int.reduceAdd, Int.reduceSub, h0, h1])
      exact ⟨rfl, by simp [hl], (by first | ((simp (disch := (first | (simp only [List.length_set, hl]; omega) | omega | rfl)) only [sL, h0]); done) | rfl | trivial | ((simp (disch := (first | (simp only [List.length_set, hl]; omega) | omega | rfl)) only [sL, h0]); rfl)), (by first | ((simp (disch := (first | (simp only [List.length_set, hl]; omega) | omega | rfl)) only [sL, h1]); done) | rfl | trivial | ((simp (disch := (first | (simp only [List.length_set, hl]; omega) | omega | rfl)) only [sL, h1]); rfl)), q.2⟩
    | false =>
      have e1 : pIf bs (o + 3) (pU64 bs (o + 7)) x = pBool bs (o + 3) x := by unfold pIf; rw [if_neg (by simp [hb])]
      rw [e1]
      refine Wp.cond_false (by first | ((simp (disch := (first | (simp only [List.length_set, hl]; omega) | omega | rfl)) only [sL, aEval_tmp]); done) | ((simp (disch := (first | (simp only [List.length_set, hl]; omega) | omega | rfl)) only [sL, aEval_tmp]); rfl)) ?_
      repeat (first | (with_reducible refine Wp.st ?_; simp only [wS]) | with_reducible refine Wp.drawS (by decide +kernel) ?_ | simp (disch := (first | (simp only [List.length_set, hl]; omega) | omega | rfl)) only [walkA, walkB, bne_self_eq_false, beq_self_eq_true, Option.map_some, Option.map_none, reduceIte, decide_true, decide_false, Int.reduceLT, Int.reduceLE, Int.reduceMul, Int.reduceAdd, Int.reduceSub, h0, h1])
      exact ⟨rfl, by simp [hl], (by first | ((simp (disch := (first | (simp only [List.length_set, hl]; omega) | omega | rfl)) only [sL, h0]); done) | rfl | trivial | ((simp (disch := (first | (simp only [List.length_set, hl]; omega) | omega | rfl)) only [sL, h0]); rfl)), (by first | ((simp (disch := (first | (simp only [List.length_set, hl]; omega) | omega | rfl)) only [sL, h1]); done) | rfl | trivial | ((simp (disch := (first | (simp only [List.length_set, hl]; omega) | omega | rfl)) only [sL, h1]); rfl)), c1⟩
  have m0 : o + 14 ≤ (pIf bs (o + 3) (pU64 bs (o + 7)) x).cs.length := by rw [pIf_len (fun _ => pU64_len)]; exact hl0
  have m8 : (pIf bs (o + 3) (pU64 bs (o + 7)) x).cs[o + 8]? = some (.int .i64 v8) := by rw [pIf_get (fun _ => pU64_get (by omega)) (by omega)]; exact h8
  have m9 : (pIf bs (o + 3) (pU64 bs (o + 7)) x).cs[o + 9]? = some (.int .i64 v9) := by rw [pIf_get (fun _ => pU64_get (by omega)) (by omega)]; exact h9
  generalize pIf bs (o + 3) (pU64 bs (o + 7)) x = y at m0 m8 m9 ⊢
  clear h0 h1 hl c c1 hl0 h8 h9 ha
  clear env x
  intro ax env h q
  obtain ⟨hax, hl, h0, h1, c⟩ := q
  rw [hax]
  have hl0 := m0
  have h8 := m8
  have h9 := m9
  clear m0 m8 m9 hax
  revert y
  intro x c hl0 h8 h9
  repeat (first | (with_reducible refine Wp.st ?_; simp only [wS]) | with_reducible refine Wp.drawS (by decide +kernel) ?_ | simp (disch := (first | (simp only [List.length_set, hl]; omega) | omega | rfl)) only [walkA, walkB, bne_self_eq_false, beq_self_eq_true, Option.map_some, Option.map_none, reduceIte, decide_true, decide_false, Int.reduceLT, Int.reduceLE, Int.reduceMul, Int.reduceAdd, Int.reduceSub, h0, h1, faS8, faS10])
  refine (howR_am Z H0 _ kc kr bv bs kt T L x (o + 8) (o + 10) v8 c h8 (by omega)).mono ?_
  intro v ha q
  rw [q.1]
  have c1 := q.2
  repeat (first | (with_reducible refine Wp.st ?_; simp only [wS]) | with_reducible refine Wp.drawS (by decide +kernel) ?_ | simp (disch := (first | (simp only [List.length_set, hl]; omega) | omega | rfl)) only [walkA, walkB, bne_self_eq_false, beq_self_eq_true, Option.map_some, Option.map_none, reduceIte, decide_true, decide_false, Int.reduceLT, Int.reduceLE, Int.reduceMul, Int.reduceAdd, Int.reduceSub, h0, h1, faS9, faS11])
  refine (howR_am Z H0 _ kc kr bv bs kt T L _ (o + 9) (o + 12) v9 c1 (by rw [pHow_get (by omega) (by omega) (by omega)]; exact h9) (by rw [pHow_len]; omega)).mono ?_
  intro v hb q
  rw [q.1]
  repeat (first | (with_reducible refine Wp.st ?_; simp only [wS]) | with_reducible refine Wp.drawS (by decide +kernel) ?_ | simp (disch := (first | (simp only [List.length_set, hl]; omega) | omega | rfl)) only [walkA, walkB, bne_self_eq_false, beq_self_eq_true, Option.map_some, Option.map_none, reduceIte, decide_true, decide_false, Int.reduceLT, Int.reduceLE, Int.reduceMul, Int.reduceAdd, Int.reduceSub, h0])
  simp only [aRes_none Try.results52]
  exact ⟨trivial, q.2⟩
end
end Go.Proofs.Ytanknjpcgceccaa

namespace Go.Proofs.Ytanknjpcgceccaa
open Go Go.AM
set_option linter.unusedSimpArgs false
set_option maxRecDepth 100000
theorem pSet_get {bs : List Int} {x : RS} {o p : Nat} (hp : p < o ∨ o + 14 ≤ p) : (pSet bs o x).cs[p]? = x.cs[p]? := by
  unfold pSet
  rw [pHow_get (by omega) (by omega) (by omega), pHow_get (by omega) (by omega) (by omega), pIf_get (fun _ => pU64_get (by omega)) (by omega), pIf_get (fun _ => pU32_get (by omega)) (by omega), pIf_get (fun _ => pU32_get (by omega)) (by omega), pIf_get (fun _ => pNum_get (by omega)) (by omega)]
theorem pSet_len {bs : List Int} {x : RS} {o : Nat} : (pSet bs o x).cs.length = x.cs.length := by
  unfold pSet
  rw [pHow_len, pHow_len, pIf_len (fun _ => pU64_len), pIf_len (fun _ => pU32_len), pIf_len (fun _ => pU32_len), pIf_len (fun _ => pNum_len)]
def sattrZ : List Value := [.bool false, .bool false, .bool false, .bool false, .int .i64 0, .int .u32 0, .int .u32 0, .int .u64 0, .int .i64 0, .int .i64 0, .int .u32 0, .int .u32 0, .int .u32 0, .int .u32 0]
def strZ : Value := .string ⟨#[]⟩
def argsZ : List Value := [strZ, strZ, strZ, strZ, strZ, .bool false, .bool false, .bool false, .bool false, .int .i64 0, .int .u32 0, .int .u32 0, .int .u64 0, .int .i64 0, .int .i64 0, .int .u32 0, .int .u32 0, .int .u32 0, .int .u32 0,
  .bool false, .int .u32 0, .int .u32 0, .int .u32 0, .int .u64 0, .int .u32 0, .int .i64 0, .int .i64 0, .int .i64 0, .slice none 0 0, .int .u64 0, .int .u64 0, .int .u64 0, .int .u32 0, .int .u32 0, .int .u32 0, .int .u32 0]
def pNamed (bs : List Int) (proc : Int) (x : RS) : RS :=
  if proc = 8 then (if (rNum bs 4 x.s).1 = 2 then pU64 bs 29 (pNum bs 26 0 2 x) else pSet bs 5 (pNum bs 26 0 2 x))
  else if proc = 9 then pSet bs 5 x
  else if proc = 10 then pText bs 4 1024 (pSet bs 5 x)
  else if proc = 11 then (if (rNum bs 4 x.s).1 = 3 ∨ (rNum bs 4 x.s).1 = 4 then pU32 bs 35 (pU32 bs 34 (pSet bs 5 (pNum bs 27 1 7 x))) else if (rNum bs 4 x.s).1 = 6 ∨ (rNum bs 4 x.s).1 = 7 then pSet bs 5 (pNum bs 27 1 7 x) else pNum bs 27 1 7 x)
  else if proc = 14 then pText bs 3 255 (pText bs 1 64 x)
  else x
section
variable (Z : Nat → Prop) (H0 h : Heap) (kc kr : Nat) (bv : Value) (bs : List Int) (kt : Nat) (T : TypeId) (L : List Blk)
variable {Z H0 h kc kr bv bs kt T L} in
theorem u32RS1 {x : RS} (c : CRS Z H0 h kc kr bv bs x kt T L) (o : Nat) (ho : o < x.cs.length) : Cl Try.prog 55 [pt kc 0, .slice (some ⟨h.next, 0, none⟩) 1 1] (h.push (.cells [pt kt o] 123 false)) fun v h' => v = .tuple #[] ∧ CRS Z H0 h' kc kr bv bs (pU32 bs o x) kt T L := u32R1 c o ho
variable {Z H0 h kc kr bv bs kt T L} in
theorem u64RS1 {x : RS} (c : CRS Z H0 h kc kr bv bs x kt T L) (o : Nat) (ho : o < x.cs.length) : Cl Try.prog 56 [pt kc 0, .slice (some ⟨h.next, 0, none⟩) 1 1] (h.push (.cells [pt kt o] 125 false)) fun v h' => v = .tuple #[] ∧ CRS Z H0 h' kc kr bv bs (pU64 bs o x) kt T L := u64R1 c o ho
variable {Z H0 h kc kr bv bs kt T L} in
theorem u32RS2 {x : RS} (c : CRS Z H0 h kc kr bv bs x kt T L) (o p : Nat) (ho : o < x.cs.length) (hp : p < x.cs.length) : Cl Try.prog 55 [pt kc 0, .slice (some ⟨h.next, 0, none⟩) 2 2] (h.push (.cells [pt kt o, pt kt p] 123 false)) fun v h' => v = .tuple #[] ∧ CRS Z H0 h' kc kr bv bs (pU32 bs p (pU32 bs o x)) kt T L := u32R2 c o p ho hp
variable {Z H0 h kc kr bv bs kt T L} in
theorem u64RS2 {x : RS} (c : CRS Z H0 h kc kr bv bs x kt T L) (o p : Nat) (ho : o < x.cs.length) (hp : p < x.cs.length) : Cl Try.prog 56 [pt kc 0, .slice (some ⟨h.next, 0, none⟩) 2 2] (h.push (.cells [pt kt o, pt kt p] 125 false)) fun v h' => v = .tuple #[] ∧ CRS Z H0 h' kc kr bv bs (pU64 bs p (pU64 bs o x)) kt T L := u64R2 c o p ho hp
set_option maxHeartbeats 1000000 in
theorem namedR_3 (x : RS) (c : CRS Z H0 h kc kr bv bs x kt T L) (hn : x.cs.length = 36) (hz : ∀ i, i ≠ 0 → i ≠ 2 → i < 36 → x.cs[i]? = argsZ[i]?) :
    Cl Try.prog 59 [pt kc 0, .int .i64 3, pt kt 0] h fun v h' => v = .tuple #[] ∧ CRS Z H0 h' kc kr bv bs (pNamed bs 3 x) kt T L := by
  refine Cl.enter Try.func59 rfl 97 Try.ntmps59 (by simp) ?_
  intro env hl ha
  have h0 : sl env 0 = pt kc 0 := ha 0 (by simp)
  have h1 : sl env 1 = .int .i64 3 := ha 1 (by simp)
  have h2 : sl env 2 = pt kt 0 := ha 2 (by simp)
  clear ha
  repeat (first | (with_reducible refine Wp.st ?_; simp only [wS]) | with_reducible refine Wp.drawS (by decide +kernel) ?_ | simp (disch := (first | (simp only [List.length_set, hl]; omega) | omega | rfl)) only [walkA, walkB, bne_self_eq_false, beq_self_eq_true, Option.map_some, Option.map_none, reduceIte, decide_true, decide_false, Int.reduceLT, Int.reduceLE, Int.reduceMul, Int.reduceAdd, Int.reduceSub, h0, h1, h2, Int.reduceBEq, Int.reduceBNe, Int.reduceGT, Int.reduceGE] | (refine Wp.cond_true ?_ ?_; focus ((simp (disch := (first | (simp only [List.length_set, hl]; omega) | omega | rfl)) only [sL, aEval_tmp]); done)) | (refine Wp.cond_false ?_ ?_; focus ((simp (disch := (first | (simp only [List.length_set, hl]; omega) | omega | rfl)) only [sL, aEval_tmp]); done)))
  simp only [aRes_none Try.results59]
  refine ⟨trivial, ?_⟩
  have e : pNamed bs 3 x = x := by simp [pNamed]
  rw [e]; exact c
set_option maxHeartbeats 1000000 in
theorem namedR_12 (x : RS) (c : CRS Z H0 h kc kr bv bs x kt T L) (hn : x.cs.length = 36) (hz : ∀ i, i ≠ 0 → i ≠ 2 → i < 36 → x.cs[i]? = argsZ[i]?) :
    Cl Try.prog 59 [pt kc 0, .int .i64 12, pt kt 0] h fun v h' => v = .tuple #[] ∧ CRS Z H0 h' kc kr bv bs (pNamed bs 12 x) kt T L := by
  refine Cl.enter Try.func59 rfl 97 Try.ntmps59 (by simp) ?_
  intro env hl ha
  have h0 : sl env 0 = pt kc 0 := ha 0 (by simp)
  have h1 : sl env 1 = .int .i64 12 := ha 1 (by simp)
  have h2 : sl env 2 = pt kt 0 := ha 2 (by simp)
  clear ha
  repeat (first | (with_reducible refine Wp.st ?_; simp only [wS]) | with_reducible refine Wp.drawS (by decide +kernel) ?_ | simp (disch := (first | (simp only [List.length_set, hl]; omega) | omega | rfl)) only [walkA, walkB, bne_self_eq_false, beq_self_eq_true, Option.map_some, Option.map_none, reduceIte, decide_true, decide_false, Int.reduceLT, Int.reduceLE, Int.reduceMul, Int.reduceAdd, Int.reduceSub, h0, h1, h2, Int.reduceBEq, Int.reduceBNe, Int.reduceGT, Int.reduceGE] | (refine Wp.cond_true ?_ ?_; focus ((simp (disch := (first | (simp only [List.length_set, hl]; omega) | omega | rfl)) only [sL, aEval_tmp]); done)) | (refine Wp.cond_false ?_ ?_; focus ((simp (disch := (first | (simp only [List.length_set, hl]; omega) | omega | rfl)) only [sL, aEval_tmp]); done)))
  simp only [aRes_none Try.results59]
  refine ⟨trivial, ?_⟩
  have e : pNamed bs 12 x = x := by simp [pNamed]
  rw [e]; exact c
set_option maxHeartbeats 1000000 in
theorem namedR_13 (x : RS) (c : CRS Z H0 h kc kr bv bs x kt T L) (hn : x.cs.length = 36) (hz : ∀ i, i ≠ 0 → i ≠ 2 → i < 36 → x.cs[i]? = argsZ[i]?) :
    Cl Try.prog 59 [pt kc 0, .int .i64 13, pt kt 0] h fun v h' => v = .tuple #[] ∧ CRS Z H0 h' kc kr bv bs (pNamed bs 13 x) kt T L := by
  refine Cl.enter Try.func59 rfl 97 Try.ntmps59 (by simp) ?_
  intro env hl ha
  have h0 : sl env 0 = pt kc 0 := ha 0 (by simp)
  have h1 : sl env 1 = .int .i64 13 := ha 1 (by simp)
  have h2 : sl env 2 = pt kt 0 := ha 2 (by simp)
  clear ha
  repeat (first | (with_reducible refine Wp.st ?_; simp only [wS]) | with_reducible refine Wp.drawS (by decide +kernel) ?_ | simp (disch := (first | (simp only [List.length_set, hl]; omega) | omega | rfl)) only [walkA, walkB, bne_self_eq_false, beq_self_eq_true, Option.map_some, Option.map_none, reduceIte, decide_true, decide_false, Int.reduceLT, Int.reduceLE, Int.reduceMul, Int.reduceAdd, Int.reduceSub, h0, h1, h2, Int.reduceBEq, Int.reduceBNe, Int.reduceGT, Int.reduceGE] | (refine Wp.cond_true ?_ ?_; focus ((simp (disch := (first | (simp only [List.length_set, hl]; omega) | omega | rfl)) only [sL, aEval_tmp]); done)) | (refine Wp.cond_false ?_ ?_; focus ((simp (disch := (first | (simp only [List.length_set, hl]; omega) | omega | rfl)) only [sL, aEval_tmp]); done)))
  simp only [aRes_none Try.results59]
  refine ⟨trivial, ?_⟩
  have e : pNamed bs 13 x = x := by simp [pNamed]
  rw [e]; exact c
set_option maxHeartbeats 1000000 in
theorem namedR_9 (x : RS) (c : CRS Z H0 h kc kr bv bs x kt T L) (hn : x.cs.length = 36) (hz : ∀ i, i ≠ 0 → i ≠ 2 → i < 36 → x.cs[i]? = argsZ[i]?) :
    Cl Try.prog 59 [pt kc 0, .int .i64 9, pt kt 0] h fun v h' => v = .tuple #[] ∧ CRS Z H0 h' kc kr bv bs (pNamed bs 9 x) kt T L := by
  refine Cl.enter Try.func59 rfl 97 Try.ntmps59 (by simp) ?_
  intro env hl ha
  have h0 : sl env 0 = pt kc 0 := ha 0 (by simp)
  have h1 : sl env 1 = .int .i64 9 := ha 1 (by simp)
  have h2 : sl env 2 = pt kt 0 := ha 2 (by simp)
  clear ha
  repeat (first | (with_reducible refine Wp.st ?_; simp only [wS]) | with_reducible refine Wp.drawS (by decide +kernel) ?_ | simp (disch := (first | (simp only [List.length_set, hl]; omega) | omega | rfl)) only [walkA, walkB, bne_self_eq_false, beq_self_eq_true, Option.map_some, Option.map_none, reduceIte, decide_true, decide_false, Int.reduceLT, Int.reduceLE, Int.reduceMul, Int.reduceAdd, Int.reduceSub, h0, h1, h2, faA5, Int.reduceBEq, Int.reduceBNe, Int.reduceGT, Int.reduceGE] | (refine Wp.cond_true ?_ ?_; focus ((simp (disch := (first | (simp only [List.length_set, hl]; omega) | omega | rfl)) only [sL, aEval_tmp]); done)) | (refine Wp.cond_false ?_ ?_; focus ((simp (disch := (first | (simp only [List.length_set, hl]; omega) | omega | rfl)) only [sL, aEval_tmp]); done)))
  refine (setR_am Z H0 _ kc kr bv bs kt T L _ 5 c (by (try simp only [pText_len, pNum_len, pU32_len, pU64_len, pSet_len, pBool_len, pTime_len]); omega) ⟨0, (by (try simp (disch := decide) only [pText_get, pNum_get, pU32_get, pU64_get, pSet_get, pBool_get, pTime_get]); rw [hz _ (by decide) (by decide) (by decide)]; rfl)⟩ ⟨0, (by (try simp (disch := decide) only [pText_get, pNum_get, pU32_get, pU64_get, pSet_get, pBool_get, pTime_get]); rw [hz _ (by decide) (by decide) (by decide)]; rfl)⟩ ⟨0, (by (try simp (disch := decide) only [pText_get, pNum_get, pU32_get, pU64_get, pSet_get, pBool_get, pTime_get]); rw [hz _ (by decide) (by decide) (by decide)]; rfl)⟩).mono ?_
  intro v ha q
  rw [q.1]
  have c := q.2
  clear q
  repeat (first | (with_reducible refine Wp.st ?_; simp only [wS]) | with_reducible refine Wp.drawS (by decide +kernel) ?_ | simp (disch := (first | (simp only [List.length_set, hl]; omega) | omega | rfl)) only [walkA, walkB, bne_self_eq_false, beq_self_eq_true, Option.map_some, Option.map_none, reduceIte, decide_true, decide_false, Int.reduceLT, Int.reduceLE, Int.reduceMul, Int.reduceAdd, Int.reduceSub, h0, h1, h2, Int.reduceBEq, Int.reduceBNe, Int.reduceGT, Int.reduceGE] | (refine Wp.cond_true ?_ ?_; focus ((simp (disch := (first | (simp only [List.length_set, hl]; omega) | omega | rfl)) only [sL, aEval_tmp]); done)) | (refine Wp.cond_false ?_ ?_; focus ((simp (disch := (first | (simp only [List.length_set, hl]; omega) | omega | rfl)) only [sL, aEval_tmp]); done)))
  simp only [aRes_none Try.results59]
  exact ⟨trivial, c⟩
set_option maxHeartbeats 1000000 in
theorem namedR_10 (x : RS) (c : CRS Z H0 h kc kr bv bs x kt T L) (hn : x.cs.length = 36) (hz : ∀ i, i ≠ 0 → i ≠ 2 → i < 36 → x.cs[i]? = argsZ[i]?) :
    Cl Try.prog 59 [pt kc 0, .int .i64 10, pt kt 0] h fun v h' => v = .tuple #[] ∧ CRS Z H0 h' kc kr bv bs (pNamed bs 10 x) kt T L := by
  refine Cl.enter Try.func59 rfl 97 Try.ntmps59 (by simp) ?_
  intro env hl ha
  have h0 : sl env 0 = pt kc 0 := ha 0 (by simp)
  have h1 : sl env 1 = .int .i64 10 := ha 1 (by simp)
  have h2 : sl env 2 = pt kt 0 := ha 2 (by simp)
  clear ha
  repeat (first | (with_reducible refine Wp.st ?_; simp only [wS]) | with_reducible refine Wp.drawS (by decide +kernel) ?_ | simp (disch := (first | (simp only [List.length_set, hl]; omega) | omega | rfl)) only [walkA, walkB, bne_self_eq_false, beq_self_eq_true, Option.map_some, Option.map_none, reduceIte, decide_true, decide_false, Int.reduceLT, Int.reduceLE, Int.reduceMul, Int.reduceAdd, Int.reduceSub, h0, h1, h2, faA5, Int.reduceBEq, Int.reduceBNe, Int.reduceGT, Int.reduceGE] | (refine Wp.cond_true ?_ ?_; focus ((simp (disch := (first | (simp only [List.length_set, hl]; omega) | omega | rfl)) only [sL, aEval_tmp]); done)) | (refine Wp.cond_false ?_ ?_; focus ((simp (disch := (first | (simp only [List.length_set, hl]; omega) | omega | rfl)) only [sL, aEval_tmp]); done)))
  refine (setR_am Z H0 _ kc kr bv bs kt T L _ 5 c (by (try simp only [pText_len, pNum_len, pU32_len, pU64_len, pSet_len, pBool_len, pTime_len]); omega) ⟨0, (by (try simp (disch := decide) only [pText_get, pNum_get, pU32_get, pU64_get, pSet_get, pBool_get, pTime_get]); rw [hz _ (by decide) (by decide) (by decide)]; rfl)⟩ ⟨0, (by (try simp (disch := decide) only [pText_get, pNum_get, pU32_get, pU64_get, pSet_get, pBool_get, pTime_get]); rw [hz _ (by decide) (by decide) (by decide)]; rfl)⟩ ⟨0, (by (try simp (disch := decide) only [pText_get, pNum_get, pU32_get, pU64_get, pSet_get, pBool_get, pTime_get]); rw [hz _ (by decide) (by decide) (by decide)]; rfl)⟩).mono ?_
  intro v ha q
  rw [q.1]
  have c := q.2
  clear q
  repeat (first | (with_reducible refine Wp.st ?_; simp only [wS]) | with_reducible refine Wp.drawS (by decide +kernel) ?_ | simp (disch := (first | (simp only [List.length_set, hl]; omega) | omega | rfl)) only [walkA, walkB, bne_self_eq_false, beq_self_eq_true, Option.map_some, Option.map_none, reduceIte, decide_true, decide_false, Int.reduceLT, Int.reduceLE, Int.reduceMul, Int.reduceAdd, Int.reduceSub, h0, h1, h2, faA4, Int.reduceBEq, Int.reduceBNe, Int.reduceGT, Int.reduceGE] | (refine Wp.cond_true ?_ ?_; focus ((simp (disch := (first | (simp only [List.length_set, hl]; omega) | omega | rfl)) only [sL, aEval_tmp]); done)) | (refine Wp.cond_false ?_ ?_; focus ((simp (disch := (first | (simp only [List.length_set, hl]; omega) | omega | rfl)) only [sL, aEval_tmp]); done)))
  refine (textR_am Z H0 _ kc kr bv bs kt T L _ 4 1024 ⟨#[]⟩ c (by (try simp (disch := decide) only [pText_get, pNum_get, pU32_get, pU64_get, pSet_get, pBool_get, pTime_get]); rw [hz _ (by decide) (by decide) (by decide)]; rfl) (by decide)).mono ?_
  intro v ha q
  rw [q.1]
  have c := q.2
  clear q
  repeat (first | (with_reducible refine Wp.st ?_; simp only [wS]) | with_reducible refine Wp.drawS (by decide +kernel) ?_ | simp (disch := (first | (simp only [List.length_set, hl]; omega) | omega | rfl)) only [walkA, walkB, bne_self_eq_false, beq_self_eq_true, Option.map_some, Option.map_none, reduceIte, decide_true, decide_false, Int.reduceLT, Int.reduceLE, Int.reduceMul, Int.reduceAdd, Int.reduceSub, h0, h1, h2, Int.reduceBEq, Int.reduceBNe, Int.reduceGT, Int.reduceGE] | (refine Wp.cond_true ?_ ?_; focus ((simp (disch := (first | (simp only [List.length_set, hl]; omega) | omega | rfl)) only [sL, aEval_tmp]); done)) | (refine Wp.cond_false ?_ ?_; focus ((simp (disch := (first | (simp only [List.length_set, hl]; omega) | omega | rfl)) only [sL, aEval_tmp]); done)))
  simp only [aRes_none Try.results59]
  exact ⟨trivial, c⟩
set_option maxHeartbeats 1000000 in
theorem namedR_14 (x : RS) (c : CRS Z H0 h kc kr bv bs x kt T L) (hn : x.cs.length = 36) (hz : ∀ i, i ≠ 0 → i ≠ 2 → i < 36 → x.cs[i]? = argsZ[i]?) :
    Cl Try.prog 59 [pt kc 0, .int .i64 14, pt kt 0] h fun v h' => v = .tuple #[] ∧ CRS Z H0 h' kc kr bv bs (pNamed bs 14 x) kt T L := by
  refine Cl.enter Try.func59 rfl 97 Try.ntmps59 (by simp) ?_
  intro env hl ha
  have h0 : sl env 0 = pt kc 0 := ha 0 (by simp)
  have h1 : sl env 1 = .int .i64 14 := ha 1 (by simp)
  have h2 : sl env 2 = pt kt 0 := ha 2 (by simp)
  clear ha
  repeat (first | (with_reducible refine Wp.st ?_; simp only [wS]) | with_reducible refine Wp.drawS (by decide +kernel) ?_ | simp (disch := (first | (simp only [List.length_set, hl]; omega) | omega | rfl)) only [walkA, walkB, bne_self_eq_false, beq_self_eq_true, Option.map_some, Option.map_none, reduceIte, decide_true, decide_false, Int.reduceLT, Int.reduceLE, Int.reduceMul, Int.reduceAdd, Int.reduceSub, h0, h1, h2, faA1, Int.reduceBEq, Int.reduceBNe, Int.reduceGT, Int.reduceGE] | (refine Wp.cond_true ?_ ?_; focus ((simp (disch := (first | (simp only [List.length_set, hl]; omega) | omega | rfl)) only [sL, aEval_tmp]); done)) | (refine Wp.cond_false ?_ ?_; focus ((simp (disch := (first | (simp only [List.length_set, hl]; omega) | omega | rfl)) only [sL, aEval_tmp]); done)))
  refine (textR_am Z H0 _ kc kr bv bs kt T L _ 1 64 ⟨#[]⟩ c (by (try simp (disch := decide) only [pText_get, pNum_get, pU32_get, pU64_get, pSet_get, pBool_get, pTime_get]); rw [hz _ (by decide) (by decide) (by decide)]; rfl) (by decide)).mono ?_
  intro v ha q
  rw [q.1]
  have c := q.2
  clear q
  repeat (first | (with_reducible refine Wp.st ?_; simp only [wS]) | with_reducible refine Wp.drawS (by decide +kernel) ?_ | simp (disch := (first | (simp only [List.length_set, hl]; omega) | omega | rfl)) only [walkA, walkB, bne_self_eq_false, beq_self_eq_true, Option.map_some, Option.map_none, reduceIte, decide_true, decide_false, Int.reduceLT, Int.reduceLE, Int.reduceMul, Int.reduceAdd, Int.reduceSub, h0, h1, h2, faA3, Int.reduceBEq, Int.reduceBNe, Int.reduceGT, Int.reduceGE] | (refine Wp.cond_true ?_ ?_; focus ((simp (disch := (first | (simp only [List.length_set, hl]; omega) | omega | rfl)) only [sL, aEval_tmp]); done)) | (refine Wp.cond_false ?_ ?_; focus ((simp (disch := (first | (simp only [List.length_set, hl]; omega) | omega | rfl)) only [sL, aEval_tmp]); done)))
  refine (textR_am Z H0 _ kc kr bv bs kt T L _ 3 255 ⟨#[]⟩ c (by (try simp (disch := decide) only [pText_get, pNum_get, pU32_get, pU64_get, pSet_get, pBool_get, pTime_get]); rw [hz _ (by decide) (by decide) (by decide)]; rfl) (by decide)).mono ?_
  intro v ha q
  rw [q.1]
  have c := q.2
  clear q
  repeat (first | (with_reducible refine Wp.st ?_; simp only [wS]) | with_reducible refine Wp.drawS (by decide +kernel) ?_ | simp (disch := (first | (simp only [List.length_set, hl]; omega) | omega | rfl)) only [walkA, walkB, bne_self_eq_false, beq_self_eq_true, Option.map_some, Option.map_none, reduceIte, decide_true, decide_false, Int.reduceLT, Int.reduceLE, Int.reduceMul, Int.reduceAdd, Int.reduceSub, h0, h1, h2, Int.reduceBEq, Int.reduceBNe, Int.reduceGT, Int.reduceGE] | (refine Wp.cond_true ?_ ?_; focus ((simp (disch := (first | (simp only [List.length_set, hl]; omega) | omega | rfl)) only [sL, aEval_tmp]); done)) | (refine Wp.cond_false ?_ ?_; focus ((simp (disch := (first | (simp only [List.length_set, hl]; omega) | omega | rfl)) only [sL, aEval_tmp]); done)))
  simp only [aRes_none Try.results59]
  exact ⟨trivial, c⟩
set_option maxHeartbeats 1000000 in
theorem namedR_8 (x : RS) (c : CRS Z H0 h kc kr bv bs x kt T L) (hn : x.cs.length = 36) (hz : ∀ i, i ≠ 0 → i ≠ 2 → i < 36 → x.cs[i]? = argsZ[i]?) :
    Cl Try.prog 59 [pt kc 0, .int .i64 8, pt kt 0] h fun v h' => v = .tuple #[] ∧ CRS Z H0 h' kc kr bv bs (pNamed bs 8 x) kt T L := by
  refine Cl.enter Try.func59 rfl 97 Try.ntmps59 (by simp) ?_
  intro env hl ha
  have h0 : sl env 0 = pt kc 0 := ha 0 (by simp)
  have h1 : sl env 1 = .int .i64 8 := ha 1 (by simp)
  have h2 : sl env 2 = pt kt 0 := ha 2 (by simp)
  clear ha
  repeat (first | (with_reducible refine Wp.st ?_; simp only [wS]) | with_reducible refine Wp.drawS (by decide +kernel) ?_ | simp (disch := (first | (simp only [List.length_set, hl]; omega) | omega | rfl)) only [walkA, walkB, bne_self_eq_false, beq_self_eq_true, Option.map_some, Option.map_none, reduceIte, decide_true, decide_false, Int.reduceLT, Int.reduceLE, Int.reduceMul, Int.reduceAdd, Int.reduceSub, h0, h1, h2, faA12, Int.reduceBEq, Int.reduceBNe, Int.reduceGT, Int.reduceGE] | (refine Wp.cond_true ?_ ?_; focus ((simp (disch := (first | (simp only [List.length_set, hl]; omega) | omega | rfl)) only [sL, aEval_tmp]); done)) | (refine Wp.cond_false ?_ ?_; focus ((simp (disch := (first | (simp only [List.length_set, hl]; omega) | omega | rfl)) only [sL, aEval_tmp]); done)))
  refine (numR_am Z H0 _ kc kr bv bs kt T L _ 26 0 2 0 c (by (try simp (disch := decide) only [pText_get, pNum_get, pU32_get, pU64_get, pSet_get, pBool_get, pTime_get]); rw [hz _ (by decide) (by decide) (by decide)]; rfl)).mono ?_
  intro v ha q
  rw [q.1]
  have c := q.2
  clear q
  have ld := CR.ld c Try.underlying3 (by simp) (by simp) 26
  have e1 : (pNum bs 26 0 2 x).cs[26]? = some (.int .i64 (rNum bs 4 x.s).1) := by simp only [pNum]; rw [List.getElem?_set_self (by omega)]
  rw [e1] at ld
  by_cases h2' : (rNum bs 4 x.s).1 = 2
  · have d : ((rNum bs 4 x.s).1 == 2) = true := by simpa using h2'
    repeat (first | (with_reducible refine Wp.st ?_; simp only [wS]) | with_reducible refine Wp.drawS (by decide +kernel) ?_ | simp (disch := (first | (simp only [List.length_set, hl]; omega) | omega | rfl)) only [walkA, walkB, bne_self_eq_false, beq_self_eq_true, Option.map_some, Option.map_none, reduceIte, decide_true, decide_false, Int.reduceLT, Int.reduceLE, Int.reduceMul, Int.reduceAdd, Int.reduceSub, h0, h1, h2, faA12, ld, d, faA15, bp64, Int.reduceBEq, Int.reduceBNe, Int.reduceGT, Int.reduceGE] | (refine Wp.cond_true ?_ ?_; focus ((simp (disch := (first | (simp only [List.length_set, hl]; omega) | omega | rfl)) only [sL, aEval_tmp]); done)) | (refine Wp.cond_false ?_ ?_; focus ((simp (disch := (first | (simp only [List.length_set, hl]; omega) | omega | rfl)) only [sL, aEval_tmp]); done)))
    refine (u64RS1 c 29 (by (try simp only [pText_len, pNum_len, pU32_len, pU64_len, pSet_len, pBool_len, pTime_len]); omega)).mono ?_
    intro v ha q
    rw [q.1]
    have c := q.2
    clear q
    repeat (first | (with_reducible refine Wp.st ?_; simp only [wS]) | with_reducible refine Wp.drawS (by decide +kernel) ?_ | simp (disch := (first | (simp only [List.length_set, hl]; omega) | omega | rfl)) only [walkA, walkB, bne_self_eq_false, beq_self_eq_true, Option.map_some, Option.map_none, reduceIte, decide_true, decide_false, Int.reduceLT, Int.reduceLE, Int.reduceMul, Int.reduceAdd, Int.reduceSub, h0, h1, h2, Int.reduceBEq, Int.reduceBNe, Int.reduceGT, Int.reduceGE] | (refine Wp.cond_true ?_ ?_; focus ((simp (disch := (first | (simp only [List.length_set, hl]; omega) | omega | rfl)) only [sL, aEval_tmp]); done)) | (refine Wp.cond_false ?_ ?_; focus ((simp (disch := (first | (simp only [List.length_set, hl]; omega) | omega | rfl)) only [sL, aEval_tmp]); done)))
    simp only [aRes_none Try.results59]
    refine ⟨trivial, ?_⟩
    have e : pNamed bs 8 x = pU64 bs 29 (pNum bs 26 0 2 x) := by unfold pNamed; rw [if_pos rfl, if_pos h2']
    rw [e]; exact c
  · have d : ((rNum bs 4 x.s).1 == 2) = false := by simpa using h2'
    repeat (first | (with_reducible refine Wp.st ?_; simp only [wS]) | with_reducible refine Wp.drawS (by decide +kernel) ?_ | simp (disch := (first | (simp only [List.length_set, hl]; omega) | omega | rfl)) only [walkA, walkB, bne_self_eq_false, beq_self_eq_true, Option.map_some, Option.map_none, reduceIte, decide_true, decide_false, Int.reduceLT, Int.reduceLE, Int.reduceMul, Int.reduceAdd, Int.reduceSub, h0, h1, h2, faA12, ld, d, faA5, Int.reduceBEq, Int.reduceBNe, Int.reduceGT, Int.reduceGE] | (refine Wp.cond_true ?_ ?_; focus ((simp (disch := (first | (simp only [List.length_set, hl]; omega) | omega | rfl)) only [sL, aEval_tmp]); done)) | (refine Wp.cond_false ?_ ?_; focus ((simp (disch := (first | (simp only [List.length_set, hl]; omega) | omega | rfl)) only [sL, aEval_tmp]); done)))
    refine (setR_am Z H0 _ kc kr bv bs kt T L _ 5 c (by (try simp only [pText_len, pNum_len, pU32_len, pU64_len, pSet_len, pBool_len, pTime_len]); omega) ⟨0, (by (try simp (disch := decide) only [pText_get, pNum_get, pU32_get, pU64_get, pSet_get, pBool_get, pTime_get]); rw [hz _ (by decide) (by decide) (by decide)]; rfl)⟩ ⟨0, (by (try simp (disch := decide) only [pText_get, pNum_get, pU32_get, pU64_get, pSet_get, pBool_get, pTime_get]); rw [hz _ (by decide) (by decide) (by decide)]; rfl)⟩ ⟨0, (by (try simp (disch := decide) only [pText_get, pNum_get, pU32_get, pU64_get, pSet_get, pBool_get, pTime_get]); rw [hz _ (by decide) (by decide) (by decide)]; rfl)⟩).mono ?_
    intro v ha q
    rw [q.1]
    have c := q.2
    clear q
    repeat (first | (with_reducible refine Wp.st ?_; simp only [wS]) | with_reducible refine Wp.drawS (by decide +kernel) ?_ | simp (disch := (first | (simp only [List.length_set, hl]; omega) | omega | rfl)) only [walkA, walkB, bne_self_eq_false, beq_self_eq_true, Option.map_some, Option.map_none, reduceIte, decide_true, decide_false, Int.reduceLT, Int.reduceLE, Int.reduceMul, Int.reduceAdd, Int.reduceSub, h0, h1, h2, Int.reduceBEq, Int.reduceBNe, Int.reduceGT, Int.reduceGE] | (refine Wp.cond_true ?_ ?_; focus ((simp (disch := (first | (simp only [List.length_set, hl]; omega) | omega | rfl)) only [sL, aEval_tmp]); done)) | (refine Wp.cond_false ?_ ?_; focus ((simp (disch := (first | (simp only [List.length_set, hl]; omega) | omega | rfl)) only [sL, aEval_tmp]); done)))
    simp only [aRes_none Try.results59]
    refine ⟨trivial, ?_⟩
    have e : pNamed bs 8 x = pSet bs 5 (pNum bs 26 0 2 x) := by unfold pNamed; rw [if_pos rfl, if_neg h2']
    rw [e]; exact c
set_option maxHeartbeats 1000000 in
theorem namedR_11 (x : RS) (c : CRS Z H0 h kc kr bv bs x kt T L) (hn : x.cs.length = 36) (hz : ∀ i, i ≠ 0 → i ≠ 2 → i < 36 → x.cs[i]? = argsZ[i]?) :
    Cl Try.prog 59 [pt kc 0, .int .i64 11, pt kt 0] h fun v h' => v = .tuple #[] ∧ CRS Z H0 h' kc kr bv bs (pNamed bs 11 x) kt T L := by
  refine Cl.enter Try.func59 rfl 97 Try.ntmps59 (by simp) ?_
  intro env hl ha
  have h0 : sl env 0 = pt kc 0 := ha 0 (by simp)
  have h1 : sl env 1 = .int .i64 11 := ha 1 (by simp)
  have h2 : sl env 2 = pt kt 0 := ha 2 (by simp)
  clear ha
  repeat (first | (with_reducible refine Wp.st ?_; simp only [wS]) | with_reducible refine Wp.drawS (by decide +kernel) ?_ | simp (disch := (first | (simp only [List.length_set, hl]; omega) | omega | rfl)) only [walkA, walkB, bne_self_eq_false, beq_self_eq_true, Option.map_some, Option.map_none, reduceIte, decide_true, decide_false, Int.reduceLT, Int.reduceLE, Int.reduceMul, Int.reduceAdd, Int.reduceSub, h0, h1, h2, faA13, Int.reduceBEq, Int.reduceBNe, Int.reduceGT, Int.reduceGE] | (refine Wp.cond_true ?_ ?_; focus ((simp (disch := (first | (simp only [List.length_set, hl]; omega) | omega | rfl)) only [sL, aEval_tmp]); done)) | (refine Wp.cond_false ?_ ?_; focus ((simp (disch := (first | (simp only [List.length_set, hl]; omega) | omega | rfl)) only [sL, aEval_tmp]); done)))
  refine (numR_am Z H0 _ kc kr bv bs kt T L _ 27 1 7 0 c (by (try simp (disch := decide) only [pText_get, pNum_get, pU32_get, pU64_get, pSet_get, pBool_get, pTime_get]); rw [hz _ (by decide) (by decide) (by decide)]; rfl)).mono ?_
  intro v ha q
  rw [q.1]
  have c := q.2
  clear q
  have ld := CR.ld c Try.underlying3 (by simp) (by simp) 27
  have e1 : (pNum bs 27 1 7 x).cs[27]? = some (.int .i64 (rNum bs 4 x.s).1) := by simp only [pNum]; rw [List.getElem?_set_self (by omega)]
  rw [e1] at ld
  have eN : pNamed bs 11 x = (if (rNum bs 4 x.s).1 = 3 ∨ (rNum bs 4 x.s).1 = 4 then pU32 bs 35 (pU32 bs 34 (pSet bs 5 (pNum bs 27 1 7 x))) else if (rNum bs 4 x.s).1 = 6 ∨ (rNum bs 4 x.s).1 = 7 then pSet bs 5 (pNum bs 27 1 7 x) else pNum bs 27 1 7 x) := rfl
  rw [eN]
  generalize (rNum bs 4 x.s).1 = t at ld ⊢
  by_cases t3 : t = 3
  · subst t3
    rw [if_pos (by decide)]
    repeat (first | (with_reducible refine Wp.st ?_; simp only [wS]) | with_reducible refine Wp.drawS (by decide +kernel) ?_ | simp (disch := (first | (simp only [List.length_set, hl]; omega) | omega | rfl)) only [walkA, walkB, bne_self_eq_false, beq_self_eq_true, Option.map_some, Option.map_none, reduceIte, decide_true, decide_false, Int.reduceLT, Int.reduceLE, Int.reduceMul, Int.reduceAdd, Int.reduceSub, h0, h1, h2, faA13, ld, faA5, Int.reduceBEq, Int.reduceBNe, Int.reduceGT, Int.reduceGE] | (refine Wp.cond_true ?_ ?_; focus ((simp (disch := (first | (simp only [List.length_set, hl]; omega) | omega | rfl)) only [sL, aEval_tmp]); done)) | (refine Wp.cond_false ?_ ?_; focus ((simp (disch := (first | (simp only [List.length_set, hl]; omega) | omega | rfl)) only [sL, aEval_tmp]); done)))
    refine (setR_am Z H0 _ kc kr bv bs kt T L _ 5 c (by (try simp only [pText_len, pNum_len, pU32_len, pU64_len, pSet_len, pBool_len, pTime_len]); omega) ⟨0, (by (try simp (disch := decide) only [pText_get, pNum_get, pU32_get, pU64_get, pSet_get, pBool_get, pTime_get]); rw [hz _ (by decide) (by decide) (by decide)]; rfl)⟩ ⟨0, (by (try simp (disch := decide) only [pText_get, pNum_get, pU32_get, pU64_get, pSet_get, pBool_get, pTime_get]); rw [hz _ (by decide) (by decide) (by decide)]; rfl)⟩ ⟨0, (by (try simp (disch := decide) only [pText_get, pNum_get, pU32_get, pU64_get, pSet_get, pBool_get, pTime_get]); rw [hz _ (by decide) (by decide) (by decide)]; rfl)⟩).mono ?_
    intro v ha q
    rw [q.1]
    have c := q.2
    clear q
    repeat (first | (with_reducible refine Wp.st ?_; simp only [wS]) | with_reducible refine Wp.drawS (by decide +kernel) ?_ | simp (disch := (first | (simp only [List.length_set, hl]; omega) | omega | rfl)) only [walkA, walkB, bne_self_eq_false, beq_self_eq_true, Option.map_some, Option.map_none, reduceIte, decide_true, decide_false, Int.reduceLT, Int.reduceLE, Int.reduceMul, Int.reduceAdd, Int.reduceSub, h0, h1, h2, faA20, faA21, bp32', Int.reduceBEq, Int.reduceBNe, Int.reduceGT, Int.reduceGE] | (refine Wp.cond_true ?_ ?_; focus ((simp (disch := (first | (simp only [List.length_set, hl]; omega) | omega | rfl)) only [sL, aEval_tmp]); done)) | (refine Wp.cond_false ?_ ?_; focus ((simp (disch := (first | (simp only [List.length_set, hl]; omega) | omega | rfl)) only [sL, aEval_tmp]); done)))
    refine (u32RS2 c 34 35 (by (try simp only [pText_len, pNum_len, pU32_len, pU64_len, pSet_len, pBool_len, pTime_len]); omega) (by (try simp only [pText_len, pNum_len, pU32_len, pU64_len, pSet_len, pBool_len, pTime_len]); omega)).mono ?_
    intro v ha q
    rw [q.1]
    have c := q.2
    clear q
    repeat (first | (with_reducible refine Wp.st ?_; simp only [wS]) | with_reducible refine Wp.drawS (by decide +kernel) ?_ | simp (disch := (first | (simp only [List.length_set, hl]; omega) | omega | rfl)) only [walkA, walkB, bne_self_eq_false, beq_self_eq_true, Option.map_some, Option.map_none, reduceIte, decide_true, decide_false, Int.reduceLT, Int.reduceLE, Int.reduceMul, Int.reduceAdd, Int.reduceSub, h0, h1, h2, Int.reduceBEq, Int.reduceBNe, Int.reduceGT, Int.reduceGE] | (refine Wp.cond_true ?_ ?_; focus ((simp (disch := (first | (simp only [List.length_set, hl]; omega) | omega | rfl)) only [sL, aEval_tmp]); done)) | (refine Wp.cond_false ?_ ?_; focus ((simp (disch := (first | (simp only [List.length_set, hl]; omega) | omega | rfl)) only [sL, aEval_tmp]); done)))
    simp only [aRes_none Try.results59]
    exact ⟨trivial, c⟩
  by_cases t4 : t = 4
  · subst t4
    rw [if_pos (by decide)]
    repeat (first | (with_reducible refine Wp.st ?_; simp only [wS]) | with_reducible refine Wp.drawS (by decide +kernel) ?_ | simp (disch := (first | (simp only [List.length_set, hl]; omega) | omega | rfl)) only [walkA, walkB, bne_self_eq_false, beq_self_eq_true, Option.map_some, Option.map_none, reduceIte, decide_true, decide_false, Int.reduceLT, Int.reduceLE, Int.reduceMul, Int.reduceAdd, Int.reduceSub, h0, h1, h2, faA13, ld, faA5, Int.reduceBEq, Int.reduceBNe, Int.reduceGT, Int.reduceGE] | (refine Wp.cond_true ?_ ?_; focus ((simp (disch := (first | (simp only [List.length_set, hl]; omega) | omega | rfl)) only [sL, aEval_tmp]); done)) | (refine Wp.cond_false ?_ ?_; focus ((simp (disch := (first | (simp only [List.length_set, hl]; omega) | omega | rfl)) only [sL, aEval_tmp]); done)))
    refine (setR_am Z H0 _ kc kr bv bs kt T L _ 5 c (by (try simp only [pText_len, pNum_len, pU32_len, pU64_len, pSet_len, pBool_len, pTime_len]); omega) ⟨0, (by (try simp (disch := decide) only [pText_get, pNum_get, pU32_get, pU64_get, pSet_get, pBool_get, pTime_get]); rw [hz _ (by decide) (by decide) (by decide)]; rfl)⟩ ⟨0, (by (try simp (disch := decide) only [pText_get, pNum_get, pU32_get, pU64_get, pSet_get, pBool_get, pTime_get]); rw [hz _ (by decide) (by decide) (by decide)]; rfl)⟩ ⟨0, (by (try simp (disch := decide) only [pText_get, pNum_get, pU32_get, pU64_get, pSet_get, pBool_get, pTime_get]); rw [hz _ (by decide) (by decide) (by decide)]; rfl)⟩).mono ?_
    intro v ha q
    rw [q.1]
    have c := q.2
    clear q
    repeat (first | (with_reducible refine Wp.st ?_; simp only [wS]) | with_reducible refine Wp.drawS (by decide +kernel) ?_ | simp (disch := (first | (simp only [List.length_set, hl]; omega) | omega | rfl)) only [walkA, walkB, bne_self_eq_false, beq_self_eq_true, Option.map_some, Option.map_none, reduceIte, decide_true, decide_false, Int.reduceLT, Int.reduceLE, Int.reduceMul, Int.reduceAdd, Int.reduceSub, h0, h1, h2, faA20, faA21, bp32', Int.reduceBEq, Int.reduceBNe, Int.reduceGT, Int.reduceGE] | (refine Wp.cond_true ?_ ?_; focus ((simp (disch := (first | (simp only [List.length_set, hl]; omega) | omega | rfl)) only [sL, aEval_tmp]); done)) | (refine Wp.cond_false ?_ ?_; focus ((simp (disch := (first | (simp only [List.length_set, hl]; omega) | omega | rfl)) only [sL, aEval_tmp]); done)))
    refine (u32RS2 c 34 35 (by (try simp only [pText_len, pNum_len, pU32_len, pU64_len, pSet_len, pBool_len, pTime_len]); omega) (by (try simp only [pText_len, pNum_len, pU32_len, pU64_len, pSet_len, pBool_len, pTime_len]); omega)).mono ?_
    intro v ha q
    rw [q.1]
    have c := q.2
    clear q
    repeat (first | (with_reducible refine Wp.st ?_; simp only [wS]) | with_reducible refine Wp.drawS (by decide +kernel) ?_ | simp (disch := (first | (simp only [List.length_set, hl]; omega) | omega | rfl)) only [walkA, walkB, bne_self_eq_false, beq_self_eq_true, Option.map_some, Option.map_none, reduceIte, decide_true, decide_false, Int.reduceLT, Int.reduceLE, Int.reduceMul, Int.reduceAdd, Int.reduceSub, h0, h1, h2, Int.reduceBEq, Int.reduceBNe, Int.reduceGT, Int.reduceGE] | (refine Wp.cond_true ?_ ?_; focus ((simp (disch := (first | (simp only [List.length_set, hl]; omega) | omega | rfl)) only [sL, aEval_tmp]); done)) | (refine Wp.cond_false ?_ ?_; focus ((simp (disch := (first | (simp only [List.length_set, hl]; omega) | omega | rfl)) only [sL, aEval_tmp]); done)))
    simp only [aRes_none Try.results59]
    exact ⟨trivial, c⟩
  rw [if_neg (by omega)]
  by_cases t6 : t = 6
  · subst t6
    rw [if_pos (by decide)]
    repeat (first | (with_reducible refine Wp.st ?_; simp only [wS]) | with_reducible refine Wp.drawS (by decide +kernel) ?_ | simp (disch := (first | (simp only [List.length_set, hl]; omega) | omega | rfl)) only [walkA, walkB, bne_self_eq_false, beq_self_eq_true, Option.map_some, Option.map_none, reduceIte, decide_true, decide_false, Int.reduceLT, Int.reduceLE, Int.reduceMul, Int.reduceAdd, Int.reduceSub, h0, h1, h2, faA13, ld, faA5, Int.reduceBEq, Int.reduceBNe, Int.reduceGT, Int.reduceGE] | (refine Wp.cond_true ?_ ?_; focus ((simp (disch := (first | (simp only [List.length_set, hl]; omega) | omega | rfl)) only [sL, aEval_tmp]); done)) | (refine Wp.cond_false ?_ ?_; focus ((simp (disch := (first | (simp only [List.length_set, hl]; omega) | omega | rfl)) only [sL, aEval_tmp]); done)))
    refine (setR_am Z H0 _ kc kr bv bs kt T L _ 5 c (by (try simp only [pText_len, pNum_len, pU32_len, pU64_len, pSet_len, pBool_len, pTime_len]); omega) ⟨0, (by (try simp (disch := decide) only [pText_get, pNum_get, pU32_get, pU64_get, pSet_get, pBool_get, pTime_get]); rw [hz _ (by decide) (by decide) (by decide)]; rfl)⟩ ⟨0, (by (try simp (disch := decide) only [pText_get, pNum_get, pU32_get, pU64_get, pSet_get, pBool_get, pTime_get]); rw [hz _ (by decide) (by decide) (by decide)]; rfl)⟩ ⟨0, (by (try simp (disch := decide) only [pText_get, pNum_get, pU32_get, pU64_get, pSet_get, pBool_get, pTime_get]); rw [hz _ (by decide) (by decide) (by decide)]; rfl)⟩).mono ?_
    intro v ha q
    rw [q.1]
    have c := q.2
    clear q
    repeat (first | (with_reducible refine Wp.st ?_; simp only [wS]) | with_reducible refine Wp.drawS (by decide +kernel) ?_ | simp (disch := (first | (simp only [List.length_set, hl]; omega) | omega | rfl)) only [walkA, walkB, bne_self_eq_false, beq_self_eq_true, Option.map_some, Option.map_none, reduceIte, decide_true, decide_false, Int.reduceLT, Int.reduceLE, Int.reduceMul, Int.reduceAdd, Int.reduceSub, h0, h1, h2, Int.reduceBEq, Int.reduceBNe, Int.reduceGT, Int.reduceGE] | (refine Wp.cond_true ?_ ?_; focus ((simp (disch := (first | (simp only [List.length_set, hl]; omega) | omega | rfl)) only [sL, aEval_tmp]); done)) | (refine Wp.cond_false ?_ ?_; focus ((simp (disch := (first | (simp only [List.length_set, hl]; omega) | omega | rfl)) only [sL, aEval_tmp]); done)))
    simp only [aRes_none Try.results59]
    exact ⟨trivial, c⟩
  by_cases t7 : t = 7
  · subst t7
    rw [if_pos (by decide)]
    repeat (first | (with_reducible refine Wp.st ?_; simp only [wS]) | with_reducible refine Wp.drawS (by decide +kernel) ?_ | simp (disch := (first | (simp only [List.length_set, hl]; omega) | omega | rfl)) only [walkA, walkB, bne_self_eq_false, beq_self_eq_true, Option.map_some, Option.map_none, reduceIte, decide_true, decide_false, Int.reduceLT, Int.reduceLE, Int.reduceMul, Int.reduceAdd, Int.reduceSub, h0, h1, h2, faA13, ld, faA5, Int.reduceBEq, Int.reduceBNe, Int.reduceGT, Int.reduceGE] | (refine Wp.cond_true ?_ ?_; focus ((simp (disch := (first | (simp only [List.length_set, hl]; omega) | omega | rfl)) only [sL, aEval_tmp]); done)) | (refine Wp.cond_false ?_ ?_; focus ((simp (disch := (first | (simp only [List.length_set, hl]; omega) | omega | rfl)) only [sL, aEval_tmp]); done)))
    refine (setR_am Z H0 _ kc kr bv bs kt T L _ 5 c (by (try simp only [pText_len, pNum_len, pU32_len, pU64_len, pSet_len, pBool_len, pTime_len]); omega) ⟨0, (by (try simp (disch := decide) only [pText_get, pNum_get, pU32_get, pU64_get, pSet_get, pBool_get, pTime_get]); rw [hz _ (by decide) (by decide) (by decide)]; rfl)⟩ ⟨0, (by (try simp (disch := decide) only [pText_get, pNum_get, pU32_get, pU64_get, pSet_get, pBool_get, pTime_get]); rw [hz _ (by decide) (by decide) (by decide)]; rfl)⟩ ⟨0, (by (try simp (disch := decide) only [pText_get, pNum_get, pU32_get, pU64_get, pSet_get, pBool_get, pTime_get]); rw [hz _ (by decide) (by decide) (by decide)]; rfl)⟩).mono ?_
    intro v ha q
    rw [q.1]
    have c := q.2
    clear q
    repeat (first | (with_reducible refine Wp.st ?_; simp only [wS]) | with_reducible refine Wp.drawS (by decide +kernel) ?_ | simp (disch := (first | (simp only [List.length_set, hl]; omega) | omega | rfl)) only [walkA, walkB, bne_self_eq_false, beq_self_eq_true, Option.map_some, Option.map_none, reduceIte, decide_true, decide_false, Int.reduceLT, Int.reduceLE, Int.reduceMul, Int.reduceAdd, Int.reduceSub, h0, h1, h2, Int.reduceBEq, Int.reduceBNe, Int.reduceGT, Int.reduceGE] | (refine Wp.cond_true ?_ ?_; focus ((simp (disch := (first | (simp only [List.length_set, hl]; omega) | omega | rfl)) only [sL, aEval_tmp]); done)) | (refine Wp.cond_false ?_ ?_; focus ((simp (disch := (first | (simp only [List.length_set, hl]; omega) | omega | rfl)) only [sL, aEval_tmp]); done)))
    simp only [aRes_none Try.results59]
    exact ⟨trivial, c⟩
  rw [if_neg (by omega)]
  have d3 : (t == 3) = false := by simpa using t3
  have d4 : (t == 4) = false := by simpa using t4
  have d6 : (t == 6) = false := by simpa using t6
  have d7 : (t == 7) = false := by simpa using t7
  repeat (first | (with_reducible refine Wp.st ?_; simp only [wS]) | with_reducible refine Wp.drawS (by decide +kernel) ?_ | simp (disch := (first | (simp only [List.length_set, hl]; omega) | omega | rfl)) only [walkA, walkB, bne_self_eq_false, beq_self_eq_true, Option.map_some, Option.map_none, reduceIte, decide_true, decide_false, Int.reduceLT, Int.reduceLE, Int.reduceMul, Int.reduceAdd, Int.reduceSub, h0, h1, h2, faA13, ld, d3, d4, d6, d7, Int.reduceBEq, Int.reduceBNe, Int.reduceGT, Int.reduceGE] | (refine Wp.cond_true ?_ ?_; focus ((simp (disch := (first | (simp only [List.length_set, hl]; omega) | omega | rfl)) only [sL, aEval_tmp]); done)) | (refine Wp.cond_false ?_ ?_; focus ((simp (disch := (first | (simp only [List.length_set, hl]; omega) | omega | rfl)) only [sL, aEval_tmp]); done)))
  simp only [aRes_none Try.results59]
  exact ⟨trivial, c⟩
theorem namedR_all (p : Int) (x : RS) (hp : p = 3 ∨ p = 8 ∨ p = 9 ∨ p = 10 ∨ p = 11 ∨ p = 12 ∨ p = 13 ∨ p = 14) (c : CRS Z H0 h kc kr bv bs x kt T L) (hn : x.cs.length = 36) (hz : ∀ i, i ≠ 0 → i ≠ 2 → i < 36 → x.cs[i]? = argsZ[i]?) :
    Cl Try.prog 59 [pt kc 0, .int .i64 p, pt kt 0] h fun v h' => v = .tuple #[] ∧ CRS Z H0 h' kc kr bv bs (pNamed bs p x) kt T L := by
  rcases hp with rfl | rfl | rfl | rfl | rfl | rfl | rfl | rfl
  · exact namedR_3 Z H0 h kc kr bv bs kt T L x c hn hz
  · exact namedR_8 Z H0 h kc kr bv bs kt T L x c hn hz
  · exact namedR_9 Z H0 h kc kr bv bs kt T L x c hn hz
  · exact namedR_10 Z H0 h kc kr bv bs kt T L x c hn hz
  · exact namedR_11 Z H0 h kc kr bv bs kt T L x c hn hz
  · exact namedR_12 Z H0 h kc kr bv bs kt T L x c hn hz
  · exact namedR_13 Z H0 h kc kr bv bs kt T L x c hn hz
  · exact namedR_14 Z H0 h kc kr bv bs kt T L x c hn hz
end
theorem pLens : type_of% (And.intro @pText_len (And.intro @pNum_len (And.intro @pU32_len (And.intro @pU64_len (And.intro @pSet_len (And.intro @pBool_len (@pTime_len))))))) := And.intro @pText_len (And.intro @pNum_len (And.intro @pU32_len (And.intro @pU64_len (And.intro @pSet_len (And.intro @pBool_len (@pTime_len))))))
theorem pGets : type_of% (And.intro @pText_get (And.intro @pNum_get (And.intro @pU32_get (And.intro @pU64_get (And.intro @pSet_get (And.intro @pBool_get (@pTime_get))))))) := And.intro @pText_get (And.intro @pNum_get (And.intro @pU32_get (And.intro @pU64_get (And.intro @pSet_get (And.intro @pBool_get (@pTime_get))))))
end Go.Proofs.Ytanknjpcgceccaa

namespace Go.Proofs.Ytanknjpcgceccaa
open Go Go.AM
set_option linter.unusedSimpArgs false
set_option maxRecDepth 100000
def pArgs (bs : List Int) (proc : Int) (x : RS) : RS :=
  if proc = 0 ∨ proc = 100 ∨ proc = 102 ∨ proc = 104 ∨ proc = 105 then x
  else if proc = 101 ∨ proc = 103 then pText bs 4 1024 x
  else if proc = 2 then pIf bs 19 (pTime bs 20) (pSet bs 5 (pText bs 0 64 x))
  else if proc = 4 then pU32 bs 22 (pText bs 0 64 x)
  else if proc = 6 ∨ proc = 21 then pU32 bs 24 (pU64 bs 23 (pText bs 0 64 x))
  else if proc = 7 then (let y := pNum bs 25 0 2 (pU32 bs 24 (pU64 bs 23 (pText bs 0 64 x))); ⟨(rBytes bs 8192 y.s).2, y.bad, y.cs⟩)
  else if proc = 15 then pText bs 3 255 (pText bs 1 64 (pText bs 0 64 x))
  else if proc = 16 then pU32 bs 24 (pU64 bs 31 (pU64 bs 30 (pText bs 0 64 x)))
  else if proc = 17 then pU32 bs 33 (pU32 bs 32 (pU64 bs 31 (pU64 bs 30 (pText bs 0 64 x))))
  else if proc = 3 ∨ (8 ≤ proc ∧ proc ≤ 14) then pNamed bs proc (pText bs 2 255 (pText bs 0 64 x))
  else pText bs 0 64 x
def pData (bs : List Int) (proc : Int) (x : RS) : List Int :=
  if proc = 7 then (rBytes bs 8192 (pNum bs 25 0 2 (pU32 bs 24 (pU64 bs 23 (pText bs 0 64 x)))).s).1 else []
theorem pNamed_28 {bs : List Int} {p : Int} {s : Nat × Int} {bad : Bool} (_ : True) : (pNamed bs p (pText bs 2 255 (pText bs 0 64 ⟨s, bad, argsZ⟩))).cs[28]? = some (.slice none 0 0) := by
  unfold pNamed
  split
  · split <;> (simp (disch := decide) only [pText_get, pNum_get, pU32_get, pU64_get, pSet_get]; rfl)
  split
  · simp (disch := decide) only [pText_get, pNum_get, pU32_get, pU64_get, pSet_get]; rfl
  split
  · simp (disch := decide) only [pText_get, pNum_get, pU32_get, pU64_get, pSet_get]; rfl
  split
  · split
    · simp (disch := decide) only [pText_get, pNum_get, pU32_get, pU64_get, pSet_get]; rfl
    · split <;> (simp (disch := decide) only [pText_get, pNum_get, pU32_get, pU64_get, pSet_get]; rfl)
  split
  · simp (disch := decide) only [pText_get, pNum_get, pU32_get, pU64_get, pSet_get]; rfl
  · simp (disch := decide) only [pText_get, pNum_get, pU32_get, pU64_get, pSet_get]; rfl
section
variable (Z : Nat → Prop) (H0 h : Heap) (kc kr : Nat) (bv : Value) (bs : List Int) (kt : Nat) (T : TypeId) (L : List Blk)
def AQ (Z : Nat → Prop) (H0 h' : Heap) (kc kr : Nat) (bv : Value) (bs : List Int) (x : RS) (kt : Nat) (T : TypeId) (L : List Blk) (ds : List Int) : Prop :=
  ∃ dv, CR Z H0 h' kc kr bv bs x.s x.bad ((kt, x.cs.set 28 dv, T) :: L) ∧ OutB H0 h' dv ds
variable {Z H0 kc kr bv bs kt T L} in
theorem AQ.of {h' : Heap} {x : RS} (c : CRS Z H0 h' kc kr bv bs x kt T L) (hd : x.cs[28]? = some (.slice none 0 0)) : AQ Z H0 h' kc kr bv bs x kt T L [] := by
  refine ⟨.slice none 0 0, ?_, OutB.nil⟩
  have e : x.cs.set 28 (.slice none 0 0) = x.cs := by
    obtain ⟨hl, he⟩ := List.getElem?_eq_some_iff.1 hd
    rw [← he]; exact List.set_getElem_self hl
  rw [e]; exact c
set_option maxHeartbeats 1000000 in
theorem argsR_g0 (p : Int) (hp : p = 0 ∨ p = 100 ∨ p = 102 ∨ p = 104 ∨ p = 105) (s : Nat × Int) (bad : Bool) (c : CRS Z H0 h kc kr bv bs ⟨s, bad, argsZ⟩ kt T L) :
    Cl Try.prog 22 [pt kc 0, .int .i64 p, pt kt 0] h fun v h' => v = .tuple #[] ∧ AQ Z H0 h' kc kr bv bs (pArgs bs p ⟨s, bad, argsZ⟩) kt T L (pData bs p ⟨s, bad, argsZ⟩) := by
  refine Cl.enter Try.func22 rfl 159 Try.ntmps22 (by simp) ?_
  intro env hl ha
  have h0 : sl env 0 = pt kc 0 := ha 0 (by simp)
  have h1 : sl env 1 = .int .i64 p := ha 1 (by simp)
  have h2 : sl env 2 = pt kt 0 := ha 2 (by simp)
  clear ha
  rcases hp with rfl | rfl | rfl | rfl | rfl
  all_goals
    repeat (first | (with_reducible refine Wp.st ?_; simp only [wS]) | with_reducible refine Wp.drawS (by decide +kernel) ?_ | simp (disch := (first | (simp only [List.length_set, hl]; omega) | omega | rfl)) only [walkA, walkB, bne_self_eq_false, beq_self_eq_true, Option.map_some, Option.map_none, reduceIte, decide_true, decide_false, Int.reduceLT, Int.reduceLE, Int.reduceMul, Int.reduceAdd, Int.reduceSub, h0, h1, h2, Int.reduceBEq, Int.reduceBNe, Int.reduceGT, Int.reduceGE] | (refine Wp.cond_true ?_ ?_; focus ((simp (disch := (first | (simp only [List.length_set, hl]; omega) | omega | rfl)) only [sL, aEval_tmp]); done)) | (refine Wp.cond_false ?_ ?_; focus ((simp (disch := (first | (simp only [List.length_set, hl]; omega) | omega | rfl)) only [sL, aEval_tmp]); done)))
    simp only [aRes_none Try.results22]
    exact ⟨trivial, AQ.of c (by (try simp (disch := decide) only [pGets]); rfl)⟩
set_option maxHeartbeats 1000000 in
theorem argsR_g1 (p : Int) (hp : p = 1 ∨ p = 5 ∨ p = 18 ∨ p = 19 ∨ p = 20) (s : Nat × Int) (bad : Bool) (c : CRS Z H0 h kc kr bv bs ⟨s, bad, argsZ⟩ kt T L) :
    Cl Try.prog 22 [pt kc 0, .int .i64 p, pt kt 0] h fun v h' => v = .tuple #[] ∧ AQ Z H0 h' kc kr bv bs (pArgs bs p ⟨s, bad, argsZ⟩) kt T L (pData bs p ⟨s, bad, argsZ⟩) := by
  refine Cl.enter Try.func22 rfl 159 Try.ntmps22 (by simp) ?_
  intro env hl ha
  have h0 : sl env 0 = pt kc 0 := ha 0 (by simp)
  have h1 : sl env 1 = .int .i64 p := ha 1 (by simp)
  have h2 : sl env 2 = pt kt 0 := ha 2 (by simp)
  clear ha
  rcases hp with rfl | rfl | rfl | rfl | rfl
  all_goals
    repeat (first | (with_reducible refine Wp.st ?_; simp only [wS]) | with_reducible refine Wp.drawS (by decide +kernel) ?_ | simp (disch := (first | (simp only [List.length_set, hl]; omega) | omega | rfl)) only [walkA, walkB, bne_self_eq_false, beq_self_eq_true, Option.map_some, Option.map_none, reduceIte, decide_true, decide_false, Int.reduceLT, Int.reduceLE, Int.reduceMul, Int.reduceAdd, Int.reduceSub, h0, h1, h2, faA0, Int.reduceBEq, Int.reduceBNe, Int.reduceGT, Int.reduceGE] | (refine Wp.cond_true ?_ ?_; focus ((simp (disch := (first | (simp only [List.length_set, hl]; omega) | omega | rfl)) only [sL, aEval_tmp]); done)) | (refine Wp.cond_false ?_ ?_; focus ((simp (disch := (first | (simp only [List.length_set, hl]; omega) | omega | rfl)) only [sL, aEval_tmp]); done)))
    refine (textR_am Z H0 _ kc kr bv bs kt T L _ 0 64 ⟨#[]⟩ c (by (try simp (disch := decide) only [pGets]); rfl) (by decide)).mono ?_
    intro v ha q
    rw [q.1]
    have c := q.2
    clear q
    repeat (first | (with_reducible refine Wp.st ?_; simp only [wS]) | with_reducible refine Wp.drawS (by decide +kernel) ?_ | simp (disch := (first | (simp only [List.length_set, hl]; omega) | omega | rfl)) only [walkA, walkB, bne_self_eq_false, beq_self_eq_true, Option.map_some, Option.map_none, reduceIte, decide_true, decide_false, Int.reduceLT, Int.reduceLE, Int.reduceMul, Int.reduceAdd, Int.reduceSub, h0, h1, h2, Int.reduceBEq, Int.reduceBNe, Int.reduceGT, Int.reduceGE] | (refine Wp.cond_true ?_ ?_; focus ((simp (disch := (first | (simp only [List.length_set, hl]; omega) | omega | rfl)) only [sL, aEval_tmp]); done)) | (refine Wp.cond_false ?_ ?_; focus ((simp (disch := (first | (simp only [List.length_set, hl]; omega) | omega | rfl)) only [sL, aEval_tmp]); done)))
    simp only [aRes_none Try.results22]
    exact ⟨trivial, AQ.of c (by (try simp (disch := decide) only [pGets]); rfl)⟩
set_option maxHeartbeats 1000000 in
theorem argsR_g3 (p : Int) (hp : p = 3 ∨ p = 8 ∨ p = 9 ∨ p = 10 ∨ p = 11 ∨ p = 12 ∨ p = 13 ∨ p = 14) (s : Nat × Int) (bad : Bool) (c : CRS Z H0 h kc kr bv bs ⟨s, bad, argsZ⟩ kt T L) :
    Cl Try.prog 22 [pt kc 0, .int .i64 p, pt kt 0] h fun v h' => v = .tuple #[] ∧ AQ Z H0 h' kc kr bv bs (pArgs bs p ⟨s, bad, argsZ⟩) kt T L (pData bs p ⟨s, bad, argsZ⟩) := by
  refine Cl.enter Try.func22 rfl 159 Try.ntmps22 (by simp) ?_
  intro env hl ha
  have h0 : sl env 0 = pt kc 0 := ha 0 (by simp)
  have h1 : sl env 1 = .int .i64 p := ha 1 (by simp)
  have h2 : sl env 2 = pt kt 0 := ha 2 (by simp)
  clear ha
  have e28 : (pArgs bs p ⟨s, bad, argsZ⟩).cs[28]? = some (.slice none 0 0) := by
    rcases hp with rfl | rfl | rfl | rfl | rfl | rfl | rfl | rfl
    · exact pNamed_28 (bs := bs) (p := 3) (s := s) (bad := bad) trivial
    · exact pNamed_28 (bs := bs) (p := 8) (s := s) (bad := bad) trivial
    · exact pNamed_28 (bs := bs) (p := 9) (s := s) (bad := bad) trivial
    · exact pNamed_28 (bs := bs) (p := 10) (s := s) (bad := bad) trivial
    · exact pNamed_28 (bs := bs) (p := 11) (s := s) (bad := bad) trivial
    · exact pNamed_28 (bs := bs) (p := 12) (s := s) (bad := bad) trivial
    · exact pNamed_28 (bs := bs) (p := 13) (s := s) (bad := bad) trivial
    · exact pNamed_28 (bs := bs) (p := 14) (s := s) (bad := bad) trivial
  rcases hp with rfl | rfl | rfl | rfl | rfl | rfl | rfl | rfl
  all_goals
    repeat (first | (with_reducible refine Wp.st ?_; simp only [wS]) | with_reducible refine Wp.drawS (by decide +kernel) ?_ | simp (disch := (first | (simp only [List.length_set, hl]; omega) | omega | rfl)) only [walkA, walkB, bne_self_eq_false, beq_self_eq_true, Option.map_some, Option.map_none, reduceIte, decide_true, decide_false, Int.reduceLT, Int.reduceLE, Int.reduceMul, Int.reduceAdd, Int.reduceSub, h0, h1, h2, faA0, Int.reduceBEq, Int.reduceBNe, Int.reduceGT, Int.reduceGE] | (refine Wp.cond_true ?_ ?_; focus ((simp (disch := (first | (simp only [List.length_set, hl]; omega) | omega | rfl)) only [sL, aEval_tmp]); done)) | (refine Wp.cond_false ?_ ?_; focus ((simp (disch := (first | (simp only [List.length_set, hl]; omega) | omega | rfl)) only [sL, aEval_tmp]); done)))
    refine (textR_am Z H0 _ kc kr bv bs kt T L _ 0 64 ⟨#[]⟩ c (by (try simp (disch := decide) only [pGets]); rfl) (by decide)).mono ?_
    intro v ha q
    rw [q.1]
    have c := q.2
    clear q
    repeat (first | (with_reducible refine Wp.st ?_; simp only [wS]) | with_reducible refine Wp.drawS (by decide +kernel) ?_ | simp (disch := (first | (simp only [List.length_set, hl]; omega) | omega | rfl)) only [walkA, walkB, bne_self_eq_false, beq_self_eq_true, Option.map_some, Option.map_none, reduceIte, decide_true, decide_false, Int.reduceLT, Int.reduceLE, Int.reduceMul, Int.reduceAdd, Int.reduceSub, h0, h1, h2, faA2, Int.reduceBEq, Int.reduceBNe, Int.reduceGT, Int.reduceGE] | (refine Wp.cond_true ?_ ?_; focus ((simp (disch := (first | (simp only [List.length_set, hl]; omega) | omega | rfl)) only [sL, aEval_tmp]); done)) | (refine Wp.cond_false ?_ ?_; focus ((simp (disch := (first | (simp only [List.length_set, hl]; omega) | omega | rfl)) only [sL, aEval_tmp]); done)))
    refine (textR_am Z H0 _ kc kr bv bs kt T L _ 2 255 ⟨#[]⟩ c (by (try simp (disch := decide) only [pGets]); rfl) (by decide)).mono ?_
    intro v ha q
    rw [q.1]
    have c := q.2
    clear q
    repeat (first | (with_reducible refine Wp.st ?_; simp only [wS]) | with_reducible refine Wp.drawS (by decide +kernel) ?_ | simp (disch := (first | (simp only [List.length_set, hl]; omega) | omega | rfl)) only [walkA, walkB, bne_self_eq_false, beq_self_eq_true, Option.map_some, Option.map_none, reduceIte, decide_true, decide_false, Int.reduceLT, Int.reduceLE, Int.reduceMul, Int.reduceAdd, Int.reduceSub, h0, h1, h2, Int.reduceBEq, Int.reduceBNe, Int.reduceGT, Int.reduceGE] | (refine Wp.cond_true ?_ ?_; focus ((simp (disch := (first | (simp only [List.length_set, hl]; omega) | omega | rfl)) only [sL, aEval_tmp]); done)) | (refine Wp.cond_false ?_ ?_; focus ((simp (disch := (first | (simp only [List.length_set, hl]; omega) | omega | rfl)) only [sL, aEval_tmp]); done)))
    refine (namedR_all Z H0 _ kc kr bv bs kt T L _ _ (by decide) c (by simp only [pLens]; decide) (fun i h0 h2 _ => by rw [pText_get (by omega), pText_get (by omega)])).mono ?_
    intro v ha q
    rw [q.1]
    have c := q.2
    clear q
    repeat (first | (with_reducible refine Wp.st ?_; simp only [wS]) | with_reducible refine Wp.drawS (by decide +kernel) ?_ | simp (disch := (first | (simp only [List.length_set, hl]; omega) | omega | rfl)) only [walkA, walkB, bne_self_eq_false, beq_self_eq_true, Option.map_some, Option.map_none, reduceIte, decide_true, decide_false, Int.reduceLT, Int.reduceLE, Int.reduceMul, Int.reduceAdd, Int.reduceSub, h0, h1, h2, Int.reduceBEq, Int.reduceBNe, Int.reduceGT, Int.reduceGE] | (refine Wp.cond_true ?_ ?_; focus ((simp (disch := (first | (simp only [List.length_set, hl]; omega) | omega | rfl)) only [sL, aEval_tmp]); done)) | (refine Wp.cond_false ?_ ?_; focus ((simp (disch := (first | (simp only [List.length_set, hl]; omega) | omega | rfl)) only [sL, aEval_tmp]); done)))
    simp only [aRes_none Try.results22]
    exact ⟨trivial, AQ.of c e28⟩
set_option maxHeartbeats 1000000 in
theorem argsR_g4 (p : Int) (hp : p = 4) (s : Nat × Int) (bad : Bool) (c : CRS Z H0 h kc kr bv bs ⟨s, bad, argsZ⟩ kt T L) :
    Cl Try.prog 22 [pt kc 0, .int .i64 p, pt kt 0] h fun v h' => v = .tuple #[] ∧ AQ Z H0 h' kc kr bv bs (pArgs bs p ⟨s, bad, argsZ⟩) kt T L (pData bs p ⟨s, bad, argsZ⟩) := by
  refine Cl.enter Try.func22 rfl 159 Try.ntmps22 (by simp) ?_
  intro env hl ha
  have h0 : sl env 0 = pt kc 0 := ha 0 (by simp)
  have h1 : sl env 1 = .int .i64 p := ha 1 (by simp)
  have h2 : sl env 2 = pt kt 0 := ha 2 (by simp)
  clear ha
  rcases hp with rfl
  all_goals
    repeat (first | (with_reducible refine Wp.st ?_; simp only [wS]) | with_reducible refine Wp.drawS (by decide +kernel) ?_ | simp (disch := (first | (simp only [List.length_set, hl]; omega) | omega | rfl)) only [walkA, walkB, bne_self_eq_false, beq_self_eq_true, Option.map_some, Option.map_none, reduceIte, decide_true, decide_false, Int.reduceLT, Int.reduceLE, Int.reduceMul, Int.reduceAdd, Int.reduceSub, h0, h1, h2, faA0, Int.reduceBEq, Int.reduceBNe, Int.reduceGT, Int.reduceGE] | (refine Wp.cond_true ?_ ?_; focus ((simp (disch := (first | (simp only [List.length_set, hl]; omega) | omega | rfl)) only [sL, aEval_tmp]); done)) | (refine Wp.cond_false ?_ ?_; focus ((simp (disch := (first | (simp only [List.length_set, hl]; omega) | omega | rfl)) only [sL, aEval_tmp]); done)))
    refine (textR_am Z H0 _ kc kr bv bs kt T L _ 0 64 ⟨#[]⟩ c (by (try simp (disch := decide) only [pGets]); rfl) (by decide)).mono ?_
    intro v ha q
    rw [q.1]
    have c := q.2
    clear q
    repeat (first | (with_reducible refine Wp.st ?_; simp only [wS]) | with_reducible refine Wp.drawS (by decide +kernel) ?_ | simp (disch := (first | (simp only [List.length_set, hl]; omega) | omega | rfl)) only [walkA, walkB, bne_self_eq_false, beq_self_eq_true, Option.map_some, Option.map_none, reduceIte, decide_true, decide_false, Int.reduceLT, Int.reduceLE, Int.reduceMul, Int.reduceAdd, Int.reduceSub, h0, h1, h2, faA8, bp32, Int.reduceBEq, Int.reduceBNe, Int.reduceGT, Int.reduceGE] | (refine Wp.cond_true ?_ ?_; focus ((simp (disch := (first | (simp only [List.length_set, hl]; omega) | omega | rfl)) only [sL, aEval_tmp]); done)) | (refine Wp.cond_false ?_ ?_; focus ((simp (disch := (first | (simp only [List.length_set, hl]; omega) | omega | rfl)) only [sL, aEval_tmp]); done)))
    refine (u32RS1 c 22 (by (try simp only [pLens]); decide)).mono ?_
    intro v ha q
    rw [q.1]
    have c := q.2
    clear q
    repeat (first | (with_reducible refine Wp.st ?_; simp only [wS]) | with_reducible refine Wp.drawS (by decide +kernel) ?_ | simp (disch := (first | (simp only [List.length_set, hl]; omega) | omega | rfl)) only [walkA, walkB, bne_self_eq_false, beq_self_eq_true, Option.map_some, Option.map_none, reduceIte, decide_true, decide_false, Int.reduceLT, Int.reduceLE, Int.reduceMul, Int.reduceAdd, Int.reduceSub, h0, h1, h2, Int.reduceBEq, Int.reduceBNe, Int.reduceGT, Int.reduceGE] | (refine Wp.cond_true ?_ ?_; focus ((simp (disch := (first | (simp only [List.length_set, hl]; omega) | omega | rfl)) only [sL, aEval_tmp]); done)) | (refine Wp.cond_false ?_ ?_; focus ((simp (disch := (first | (simp only [List.length_set, hl]; omega) | omega | rfl)) only [sL, aEval_tmp]); done)))
    simp only [aRes_none Try.results22]
    exact ⟨trivial, AQ.of c (by (try simp (disch := decide) only [pGets]); rfl)⟩
set_option maxHeartbeats 1000000 in
theorem argsR_g6 (p : Int) (hp : p = 6 ∨ p = 21) (s : Nat × Int) (bad : Bool) (c : CRS Z H0 h kc kr bv bs ⟨s, bad, argsZ⟩ kt T L) :
    Cl Try.prog 22 [pt kc 0, .int .i64 p, pt kt 0] h fun v h' => v = .tuple #[] ∧ AQ Z H0 h' kc kr bv bs (pArgs bs p ⟨s, bad, argsZ⟩) kt T L (pData bs p ⟨s, bad, argsZ⟩) := by
  refine Cl.enter Try.func22 rfl 159 Try.ntmps22 (by simp) ?_
  intro env hl ha
  have h0 : sl env 0 = pt kc 0 := ha 0 (by simp)
  have h1 : sl env 1 = .int .i64 p := ha 1 (by simp)
  have h2 : sl env 2 = pt kt 0 := ha 2 (by simp)
  clear ha
  rcases hp with rfl | rfl
  all_goals
    repeat (first | (with_reducible refine Wp.st ?_; simp only [wS]) | with_reducible refine Wp.drawS (by decide +kernel) ?_ | simp (disch := (first | (simp only [List.length_set, hl]; omega) | omega | rfl)) only [walkA, walkB, bne_self_eq_false, beq_self_eq_true, Option.map_some, Option.map_none, reduceIte, decide_true, decide_false, Int.reduceLT, Int.reduceLE, Int.reduceMul, Int.reduceAdd, Int.reduceSub, h0, h1, h2, faA0, Int.reduceBEq, Int.reduceBNe, Int.reduceGT, Int.reduceGE] | (refine Wp.cond_true ?_ ?_; focus ((simp (disch := (first | (simp only [List.length_set, hl]; omega) | omega | rfl)) only [sL, aEval_tmp]); done)) | (refine Wp.cond_false ?_ ?_; focus ((simp (disch := (first | (simp only [List.length_set, hl]; omega) | omega | rfl)) only [sL, aEval_tmp]); done)))
    refine (textR_am Z H0 _ kc kr bv bs kt T L _ 0 64 ⟨#[]⟩ c (by (try simp (disch := decide) only [pGets]); rfl) (by decide)).mono ?_
    intro v ha q
    rw [q.1]
    have c := q.2
    clear q
    repeat (first | (with_reducible refine Wp.st ?_; simp only [wS]) | with_reducible refine Wp.drawS (by decide +kernel) ?_ | simp (disch := (first | (simp only [List.length_set, hl]; omega) | omega | rfl)) only [walkA, walkB, bne_self_eq_false, beq_self_eq_true, Option.map_some, Option.map_none, reduceIte, decide_true, decide_false, Int.reduceLT, Int.reduceLE, Int.reduceMul, Int.reduceAdd, Int.reduceSub, h0, h1, h2, faA9, bp64, Int.reduceBEq, Int.reduceBNe, Int.reduceGT, Int.reduceGE] | (refine Wp.cond_true ?_ ?_; focus ((simp (disch := (first | (simp only [List.length_set, hl]; omega) | omega | rfl)) only [sL, aEval_tmp]); done)) | (refine Wp.cond_false ?_ ?_; focus ((simp (disch := (first | (simp only [List.length_set, hl]; omega) | omega | rfl)) only [sL, aEval_tmp]); done)))
    refine (u64RS1 c 23 (by (try simp only [pLens]); decide)).mono ?_
    intro v ha q
    rw [q.1]
    have c := q.2
    clear q
    repeat (first | (with_reducible refine Wp.st ?_; simp only [wS]) | with_reducible refine Wp.drawS (by decide +kernel) ?_ | simp (disch := (first | (simp only [List.length_set, hl]; omega) | omega | rfl)) only [walkA, walkB, bne_self_eq_false, beq_self_eq_true, Option.map_some, Option.map_none, reduceIte, decide_true, decide_false, Int.reduceLT, Int.reduceLE, Int.reduceMul, Int.reduceAdd, Int.reduceSub, h0, h1, h2, faA10, bp32, Int.reduceBEq, Int.reduceBNe, Int.reduceGT, Int.reduceGE] | (refine Wp.cond_true ?_ ?_; focus ((simp (disch := (first | (simp only [List.length_set, hl]; omega) | omega | rfl)) only [sL, aEval_tmp]); done)) | (refine Wp.cond_false ?_ ?_; focus ((simp (disch := (first | (simp only [List.length_set, hl]; omega) | omega | rfl)) only [sL, aEval_tmp]); done)))
    refine (u32RS1 c 24 (by (try simp only [pLens]); decide)).mono ?_
    intro v ha q
    rw [q.1]
    have c := q.2
    clear q
    repeat (first | (with_reducible refine Wp.st ?_; simp only [wS]) | with_reducible refine Wp.drawS (by decide +kernel) ?_ | simp (disch := (first | (simp only [List.length_set, hl]; omega) | omega | rfl)) only [walkA, walkB, bne_self_eq_false, beq_self_eq_true, Option.map_some, Option.map_none, reduceIte, decide_true, decide_false, Int.reduceLT, Int.reduceLE, Int.reduceMul, Int.reduceAdd, Int.reduceSub, h0, h1, h2, Int.reduceBEq, Int.reduceBNe, Int.reduceGT, Int.reduceGE] | (refine Wp.cond_true ?_ ?_; focus ((simp (disch := (first | (simp only [List.length_set, hl]; omega) | omega | rfl)) only [sL, aEval_tmp]); done)) | (refine Wp.cond_false ?_ ?_; focus ((simp (disch := (first | (simp only [List.length_set, hl]; omega) | omega | rfl)) only [sL, aEval_tmp]); done)))
    simp only [aRes_none Try.results22]
    exact ⟨trivial, AQ.of c (by (try simp (disch := decide) only [pGets]); rfl)⟩
set_option maxHeartbeats 1000000 in
theorem argsR_g15 (p : Int) (hp : p = 15) (s : Nat × Int) (bad : Bool) (c : CRS Z H0 h kc kr bv bs ⟨s, bad, argsZ⟩ kt T L) :
    Cl Try.prog 22 [pt kc 0, .int .i64 p, pt kt 0] h fun v h' => v = .tuple #[] ∧ AQ Z H0 h' kc kr bv bs (pArgs bs p ⟨s, bad, argsZ⟩) kt T L (pData bs p ⟨s, bad, argsZ⟩) := by
  refine Cl.enter Try.func22 rfl 159 Try.ntmps22 (by simp) ?_
  intro env hl ha
  have h0 : sl env 0 = pt kc 0 := ha 0 (by simp)
  have h1 : sl env 1 = .int .i64 p := ha 1 (by simp)
  have h2 : sl env 2 = pt kt 0 := ha 2 (by simp)
  clear ha
  rcases hp with rfl
  all_goals
    repeat (first | (with_reducible refine Wp.st ?_; simp only [wS]) | with_reducible refine Wp.drawS (by decide +kernel) ?_ | simp (disch := (first | (simp only [List.length_set, hl]; omega) | omega | rfl)) only [walkA, walkB, bne_self_eq_false, beq_self_eq_true, Option.map_some, Option.map_none, reduceIte, decide_true, decide_false, Int.reduceLT, Int.reduceLE, Int.reduceMul, Int.reduceAdd, Int.reduceSub, h0, h1, h2, faA0, Int.reduceBEq, Int.reduceBNe, Int.reduceGT, Int.reduceGE] | (refine Wp.cond_true ?_ ?_; focus ((simp (disch := (first | (simp only [List.length_set, hl]; omega) | omega | rfl)) only [sL, aEval_tmp]); done)) | (refine Wp.cond_false ?_ ?_; focus ((simp (disch := (first | (simp only [List.length_set, hl]; omega) | omega | rfl)) only [sL, aEval_tmp]); done)))
    refine (textR_am Z H0 _ kc kr bv bs kt T L _ 0 64 ⟨#[]⟩ c (by (try simp (disch := decide) only [pGets]); rfl) (by decide)).mono ?_
    intro v ha q
    rw [q.1]
    have c := q.2
    clear q
    repeat (first | (with_reducible refine Wp.st ?_; simp only [wS]) | with_reducible refine Wp.drawS (by decide +kernel) ?_ | simp (disch := (first | (simp only [List.length_set, hl]; omega) | omega | rfl)) only [walkA, walkB, bne_self_eq_false, beq_self_eq_true, Option.map_some, Option.map_none, reduceIte, decide_true, decide_false, Int.reduceLT, Int.reduceLE, Int.reduceMul, Int.reduceAdd, Int.reduceSub, h0, h1, h2, faA1, Int.reduceBEq, Int.reduceBNe, Int.reduceGT, Int.reduceGE] | (refine Wp.cond_true ?_ ?_; focus ((simp (disch := (first | (simp only [List.length_set, hl]; omega) | omega | rfl)) only [sL, aEval_tmp]); done)) | (refine Wp.cond_false ?_ ?_; focus ((simp (disch := (first | (simp only [List.length_set, hl]; omega) | omega | rfl)) only [sL, aEval_tmp]); done)))
    refine (textR_am Z H0 _ kc kr bv bs kt T L _ 1 64 ⟨#[]⟩ c (by (try simp (disch := decide) only [pGets]); rfl) (by decide)).mono ?_
    intro v ha q
    rw [q.1]
    have c := q.2
    clear q
    repeat (first | (with_reducible refine Wp.st ?_; simp only [wS]) | with_reducible refine Wp.drawS (by decide +kernel) ?_ | simp (disch := (first | (simp only [List.length_set, hl]; omega) | omega | rfl)) only [walkA, walkB, bne_self_eq_false, beq_self_eq_true, Option.map_some, Option.map_none, reduceIte, decide_true, decide_false, Int.reduceLT, Int.reduceLE, Int.reduceMul, Int.reduceAdd, Int.reduceSub, h0, h1, h2, faA3, Int.reduceBEq, Int.reduceBNe, Int.reduceGT, Int.reduceGE] | (refine Wp.cond_true ?_ ?_; focus ((simp (disch := (first | (simp only [List.length_set, hl]; omega) | omega | rfl)) only [sL, aEval_tmp]); done)) | (refine Wp.cond_false ?_ ?_; focus ((simp (disch := (first | (simp only [List.length_set, hl]; omega) | omega | rfl)) only [sL, aEval_tmp]); done)))
    refine (textR_am Z H0 _ kc kr bv bs kt T L _ 3 255 ⟨#[]⟩ c (by (try simp (disch := decide) only [pGets]); rfl) (by decide)).mono ?_
    intro v ha q
    rw [q.1]
    have c := q.2
    clear q
    repeat (first | (with_reducible refine Wp.st ?_; simp only [wS]) | with_reducible refine Wp.drawS (by decide +kernel) ?_ | simp (disch := (first | (simp only [List.length_set, hl]; omega) | omega | rfl)) only [walkA, walkB, bne_self_eq_false, beq_self_eq_true, Option.map_some, Option.map_none, reduceIte, decide_true, decide_false, Int.reduceLT, Int.reduceLE, Int.reduceMul, Int.reduceAdd, Int.reduceSub, h0, h1, h2, Int.reduceBEq, Int.reduceBNe, Int.reduceGT, Int.reduceGE] | (refine Wp.cond_true ?_ ?_; focus ((simp (disch := (first | (simp only [List.length_set, hl]; omega) | omega | rfl)) only [sL, aEval_tmp]); done)) | (refine Wp.cond_false ?_ ?_; focus ((simp (disch := (first | (simp only [List.length_set, hl]; omega) | omega | rfl)) only [sL, aEval_tmp]); done)))
    simp only [aRes_none Try.results22]
    exact ⟨trivial, AQ.of c (by (try simp (disch := decide) only [pGets]); rfl)⟩
set_option maxHeartbeats 1000000 in
theorem argsR_g16 (p : Int) (hp : p = 16) (s : Nat × Int) (bad : Bool) (c : CRS Z H0 h kc kr bv bs ⟨s, bad, argsZ⟩ kt T L) :
    Cl Try.prog 22 [pt kc 0, .int .i64 p, pt kt 0] h fun v h' => v = .tuple #[] ∧ AQ Z H0 h' kc kr bv bs (pArgs bs p ⟨s, bad, argsZ⟩) kt T L (pData bs p ⟨s, bad, argsZ⟩) := by
  refine Cl.enter Try.func22 rfl 159 Try.ntmps22 (by simp) ?_
  intro env hl ha
  have h0 : sl env 0 = pt kc 0 := ha 0 (by simp)
  have h1 : sl env 1 = .int .i64 p := ha 1 (by simp)
  have h2 : sl env 2 = pt kt 0 := ha 2 (by simp)
  clear ha
  rcases hp with rfl
  all_goals
    repeat (first | (with_reducible refine Wp.st ?_; simp only [wS]) | with_reducible refine Wp.drawS (by decide +kernel) ?_ | simp (disch := (first | (simp only [List.length_set, hl]; omega) | omega | rfl)) only [walkA, walkB, bne_self_eq_false, beq_self_eq_true, Option.map_some, Option.map_none, reduceIte, decide_true, decide_false, Int.reduceLT, Int.reduceLE, Int.reduceMul, Int.reduceAdd, Int.reduceSub, h0, h1, h2, faA0, Int.reduceBEq, Int.reduceBNe, Int.reduceGT, Int.reduceGE] | (refine Wp.cond_true ?_ ?_; focus ((simp (disch := (first | (simp only [List.length_set, hl]; omega) | omega | rfl)) only [sL, aEval_tmp]); done)) | (refine Wp.cond_false ?_ ?_; focus ((simp (disch := (first | (simp only [List.length_set, hl]; omega) | omega | rfl)) only [sL, aEval_tmp]); done)))
    refine (textR_am Z H0 _ kc kr bv bs kt T L _ 0 64 ⟨#[]⟩ c (by (try simp (disch := decide) only [pGets]); rfl) (by decide)).mono ?_
    intro v ha q
    rw [q.1]
    have c := q.2
    clear q
    repeat (first | (with_reducible refine Wp.st ?_; simp only [wS]) | with_reducible refine Wp.drawS (by decide +kernel) ?_ | simp (disch := (first | (simp only [List.length_set, hl]; omega) | omega | rfl)) only [walkA, walkB, bne_self_eq_false, beq_self_eq_true, Option.map_some, Option.map_none, reduceIte, decide_true, decide_false, Int.reduceLT, Int.reduceLE, Int.reduceMul, Int.reduceAdd, Int.reduceSub, h0, h1, h2, faA16, faA17, bp64', Int.reduceBEq, Int.reduceBNe, Int.reduceGT, Int.reduceGE] | (refine Wp.cond_true ?_ ?_; focus ((simp (disch := (first | (simp only [List.length_set, hl]; omega) | omega | rfl)) only [sL, aEval_tmp]); done)) | (refine Wp.cond_false ?_ ?_; focus ((simp (disch := (first | (simp only [List.length_set, hl]; omega) | omega | rfl)) only [sL, aEval_tmp]); done)))
    refine (u64RS2 c 30 31 (by (try simp only [pLens]); decide) (by (try simp only [pLens]); decide)).mono ?_
    intro v ha q
    rw [q.1]
    have c := q.2
    clear q
    repeat (first | (with_reducible refine Wp.st ?_; simp only [wS]) | with_reducible refine Wp.drawS (by decide +kernel) ?_ | simp (disch := (first | (simp only [List.length_set, hl]; omega) | omega | rfl)) only [walkA, walkB, bne_self_eq_false, beq_self_eq_true, Option.map_some, Option.map_none, reduceIte, decide_true, decide_false, Int.reduceLT, Int.reduceLE, Int.reduceMul, Int.reduceAdd, Int.reduceSub, h0, h1, h2, faA10, bp32, Int.reduceBEq, Int.reduceBNe, Int.reduceGT, Int.reduceGE] | (refine Wp.cond_true ?_ ?_; focus ((simp (disch := (first | (simp only [List.length_set, hl]; omega) | omega | rfl)) only [sL, aEval_tmp]); done)) | (refine Wp.cond_false ?_ ?_; focus ((simp (disch := (first | (simp only [List.length_set, hl]; omega) | omega | rfl)) only [sL, aEval_tmp]); done)))
    refine (u32RS1 c 24 (by (try simp only [pLens]); decide)).mono ?_
    intro v ha q
    rw [q.1]
    have c := q.2
    clear q
    repeat (first | (with_reducible refine Wp.st ?_; simp only [wS]) | with_reducible refine Wp.drawS (by decide +kernel) ?_ | simp (disch := (first | (simp only [List.length_set, hl]; omega) | omega | rfl)) only [walkA, walkB, bne_self_eq_false, beq_self_eq_true, Option.map_some, Option.map_none, reduceIte, decide_true, decide_false, Int.reduceLT, Int.reduceLE, Int.reduceMul, Int.reduceAdd, Int.reduceSub, h0, h1, h2, Int.reduceBEq, Int.reduceBNe, Int.reduceGT, Int.reduceGE] | (refine Wp.cond_true ?_ ?_; focus ((simp (disch := (first | (simp only [List.length_set, hl]; omega) | omega | rfl)) only [sL, aEval_tmp]); done)) | (refine Wp.cond_false ?_ ?_; focus ((simp (disch := (first | (simp only [List.length_set, hl]; omega) | omega | rfl)) only [sL, aEval_tmp]); done)))
    simp only [aRes_none Try.results22]
    exact ⟨trivial, AQ.of c (by (try simp (disch := decide) only [pGets]); rfl)⟩
set_option maxHeartbeats 1000000 in
theorem argsR_g17 (p : Int) (hp : p = 17) (s : Nat × Int) (bad : Bool) (c : CRS Z H0 h kc kr bv bs ⟨s, bad, argsZ⟩ kt T L) :
    Cl Try.prog 22 [pt kc 0, .int .i64 p, pt kt 0] h fun v h' => v = .tuple #[] ∧ AQ Z H0 h' kc kr bv bs (pArgs bs p ⟨s, bad, argsZ⟩) kt T L (pData bs p ⟨s, bad, argsZ⟩) := by
  refine Cl.enter Try.func22 rfl 159 Try.ntmps22 (by simp) ?_
  intro env hl ha
  have h0 : sl env 0 = pt kc 0 := ha 0 (by simp)
  have h1 : sl env 1 = .int .i64 p := ha 1 (by simp)
  have h2 : sl env 2 = pt kt 0 := ha 2 (by simp)
  clear ha
  rcases hp with rfl
  all_goals
    repeat (first | (with_reducible refine Wp.st ?_; simp only [wS]) | with_reducible refine Wp.drawS (by decide +kernel) ?_ | simp (disch := (first | (simp only [List.length_set, hl]; omega) | omega | rfl)) only [walkA, walkB, bne_self_eq_false, beq_self_eq_true, Option.map_some, Option.map_none, reduceIte, decide_true, decide_false, Int.reduceLT, Int.reduceLE, Int.reduceMul, Int.reduceAdd, Int.reduceSub, h0, h1, h2, faA0, Int.reduceBEq, Int.reduceBNe, Int.reduceGT, Int.reduceGE] | (refine Wp.cond_true ?_ ?_; focus ((simp (disch := (first | (simp only [List.length_set, hl]; omega) | omega | rfl)) only [sL, aEval_tmp]); done)) | (refine Wp.cond_false ?_ ?_; focus ((simp (disch := (first | (simp only [List.length_set, hl]; omega) | omega | rfl)) only [sL, aEval_tmp]); done)))
    refine (textR_am Z H0 _ kc kr bv bs kt T L _ 0 64 ⟨#[]⟩ c (by (try simp (disch := decide) only [pGets]); rfl) (by decide)).mono ?_
    intro v ha q
    rw [q.1]
    have c := q.2
    clear q
    repeat (first | (with_reducible refine Wp.st ?_; simp only [wS]) | with_reducible refine Wp.drawS (by decide +kernel) ?_ | simp (disch := (first | (simp only [List.length_set, hl]; omega) | omega | rfl)) only [walkA, walkB, bne_self_eq_false, beq_self_eq_true, Option.map_some, Option.map_none, reduceIte, decide_true, decide_false, Int.reduceLT, Int.reduceLE, Int.reduceMul, Int.reduceAdd, Int.reduceSub, h0, h1, h2, faA16, faA17, bp64', Int.reduceBEq, Int.reduceBNe, Int.reduceGT, Int.reduceGE] | (refine Wp.cond_true ?_ ?_; focus ((simp (disch := (first | (simp only [List.length_set, hl]; omega) | omega | rfl)) only [sL, aEval_tmp]); done)) | (refine Wp.cond_false ?_ ?_; focus ((simp (disch := (first | (simp only [List.length_set, hl]; omega) | omega | rfl)) only [sL, aEval_tmp]); done)))
    refine (u64RS2 c 30 31 (by (try simp only [pLens]); decide) (by (try simp only [pLens]); decide)).mono ?_
    intro v ha q
    rw [q.1]
    have c := q.2
    clear q
    repeat (first | (with_reducible refine Wp.st ?_; simp only [wS]) | with_reducible refine Wp.drawS (by decide +kernel) ?_ | simp (disch := (first | (simp only [List.length_set, hl]; omega) | omega | rfl)) only [walkA, walkB, bne_self_eq_false, beq_self_eq_true, Option.map_some, Option.map_none, reduceIte, decide_true, decide_false, Int.reduceLT, Int.reduceLE, Int.reduceMul, Int.reduceAdd, Int.reduceSub, h0, h1, h2, faA18, faA19, bp32', Int.reduceBEq, Int.reduceBNe, Int.reduceGT, Int.reduceGE] | (refine Wp.cond_true ?_ ?_; focus ((simp (disch := (first | (simp only [List.length_set, hl]; omega) | omega | rfl)) only [sL, aEval_tmp]); done)) | (refine Wp.cond_false ?_ ?_; focus ((simp (disch := (first | (simp only [List.length_set, hl]; omega) | omega | rfl)) only [sL, aEval_tmp]); done)))
    refine (u32RS2 c 32 33 (by (try simp only [pLens]); decide) (by (try simp only [pLens]); decide)).mono ?_
    intro v ha q
    rw [q.1]
    have c := q.2
    clear q
    repeat (first | (with_reducible refine Wp.st ?_; simp only [wS]) | with_reducible refine Wp.drawS (by decide +kernel) ?_ | simp (disch := (first | (simp only [List.length_set, hl]; omega) | omega | rfl)) only [walkA, walkB, bne_self_eq_false, beq_self_eq_true, Option.map_some, Option.map_none, reduceIte, decide_true, decide_false, Int.reduceLT, Int.reduceLE, Int.reduceMul, Int.reduceAdd, Int.reduceSub, h0, h1, h2, Int.reduceBEq, Int.reduceBNe, Int.reduceGT, Int.reduceGE] | (refine Wp.cond_true ?_ ?_; focus ((simp (disch := (first | (simp only [List.length_set, hl]; omega) | omega | rfl)) only [sL, aEval_tmp]); done)) | (refine Wp.cond_false ?_ ?_; focus ((simp (disch := (first | (simp only [List.length_set, hl]; omega) | omega | rfl)) only [sL, aEval_tmp]); done)))
    simp only [aRes_none Try.results22]
    exact ⟨trivial, AQ.of c (by (try simp (disch := decide) only [pGets]); rfl)⟩
set_option maxHeartbeats 1000000 in
theorem argsR_g101 (p : Int) (hp : p = 101 ∨ p = 103) (s : Nat × Int) (bad : Bool) (c : CRS Z H0 h kc kr bv bs ⟨s, bad, argsZ⟩ kt T L) :
    Cl Try.prog 22 [pt kc 0, .int .i64 p, pt kt 0] h fun v h' => v = .tuple #[] ∧ AQ Z H0 h' kc kr bv bs (pArgs bs p ⟨s, bad, argsZ⟩) kt T L (pData bs p ⟨s, bad, argsZ⟩) := by
  refine Cl.enter Try.func22 rfl 159 Try.ntmps22 (by simp) ?_
  intro env hl ha
  have h0 : sl env 0 = pt kc 0 := ha 0 (by simp)
  have h1 : sl env 1 = .int .i64 p := ha 1 (by simp)
  have h2 : sl env 2 = pt kt 0 := ha 2 (by simp)
  clear ha
  rcases hp with rfl | rfl
  all_goals
    repeat (first | (with_reducible refine Wp.st ?_; simp only [wS]) | with_reducible refine Wp.drawS (by decide +kernel) ?_ | simp (disch := (first | (simp only [List.length_set, hl]; omega) | omega | rfl)) only [walkA, walkB, bne_self_eq_false, beq_self_eq_true, Option.map_some, Option.map_none, reduceIte, decide_true, decide_false, Int.reduceLT, Int.reduceLE, Int.reduceMul, Int.reduceAdd, Int.reduceSub, h0, h1, h2, faA4, Int.reduceBEq, Int.reduceBNe, Int.reduceGT, Int.reduceGE] | (refine Wp.cond_true ?_ ?_; focus ((simp (disch := (first | (simp only [List.length_set, hl]; omega) | omega | rfl)) only [sL, aEval_tmp]); done)) | (refine Wp.cond_false ?_ ?_; focus ((simp (disch := (first | (simp only [List.length_set, hl]; omega) | omega | rfl)) only [sL, aEval_tmp]); done)))
    refine (textR_am Z H0 _ kc kr bv bs kt T L _ 4 1024 ⟨#[]⟩ c (by (try simp (disch := decide) only [pGets]); rfl) (by decide)).mono ?_
    intro v ha q
    rw [q.1]
    have c := q.2
    clear q
    repeat (first | (with_reducible refine Wp.st ?_; simp only [wS]) | with_reducible refine Wp.drawS (by decide +kernel) ?_ | simp (disch := (first | (simp only [List.length_set, hl]; omega) | omega | rfl)) only [walkA, walkB, bne_self_eq_false, beq_self_eq_true, Option.map_some, Option.map_none, reduceIte, decide_true, decide_false, Int.reduceLT, Int.reduceLE, Int.reduceMul, Int.reduceAdd, Int.reduceSub, h0, h1, h2, Int.reduceBEq, Int.reduceBNe, Int.reduceGT, Int.reduceGE] | (refine Wp.cond_true ?_ ?_; focus ((simp (disch := (first | (simp only [List.length_set, hl]; omega) | omega | rfl)) only [sL, aEval_tmp]); done)) | (refine Wp.cond_false ?_ ?_; focus ((simp (disch := (first | (simp only [List.length_set, hl]; omega) | omega | rfl)) only [sL, aEval_tmp]); done)))
    simp only [aRes_none Try.results22]
    exact ⟨trivial, AQ.of c (by (try simp (disch := decide) only [pGets]); rfl)⟩
set_option maxHeartbeats 1000000 in
theorem argsR_7 (s : Nat × Int) (bad : Bool) (c : CRS Z H0 h kc kr bv bs ⟨s, bad, argsZ⟩ kt T L) :
    Cl Try.prog 22 [pt kc 0, .int .i64 7, pt kt 0] h fun v h' => v = .tuple #[] ∧ AQ Z H0 h' kc kr bv bs (pArgs bs 7 ⟨s, bad, argsZ⟩) kt T L (pData bs 7 ⟨s, bad, argsZ⟩) := by
  refine Cl.enter Try.func22 rfl 159 Try.ntmps22 (by simp) ?_
  intro env hl ha
  have h0 : sl env 0 = pt kc 0 := ha 0 (by simp)
  have h1 : sl env 1 = .int .i64 7 := ha 1 (by simp)
  have h2 : sl env 2 = pt kt 0 := ha 2 (by simp)
  clear ha
  repeat (first | (with_reducible refine Wp.st ?_; simp only [wS]) | with_reducible refine Wp.drawS (by decide +kernel) ?_ | simp (disch := (first | (simp only [List.length_set, hl]; omega) | omega | rfl)) only [walkA, walkB, bne_self_eq_false, beq_self_eq_true, Option.map_some, Option.map_none, reduceIte, decide_true, decide_false, Int.reduceLT, Int.reduceLE, Int.reduceMul, Int.reduceAdd, Int.reduceSub, h0, h1, h2, faA0, Int.reduceBEq, Int.reduceBNe, Int.reduceGT, Int.reduceGE] | (refine Wp.cond_true ?_ ?_; focus ((simp (disch := (first | (simp only [List.length_set, hl]; omega) | omega | rfl)) only [sL, aEval_tmp]); done)) | (refine Wp.cond_false ?_ ?_; focus ((simp (disch := (first | (simp only [List.length_set, hl]; omega) | omega | rfl)) only [sL, aEval_tmp]); done)))
  refine (textR_am Z H0 _ kc kr bv bs kt T L _ 0 64 ⟨#[]⟩ c (by (try simp (disch := decide) only [pGets]); rfl) (by decide)).mono ?_
  intro v ha q
  rw [q.1]
  have c := q.2
  clear q
  repeat (first | (with_reducible refine Wp.st ?_; simp only [wS]) | with_reducible refine Wp.drawS (by decide +kernel) ?_ | simp (disch := (first | (simp only [List.length_set, hl]; omega) | omega | rfl)) only [walkA, walkB, bne_self_eq_false, beq_self_eq_true, Option.map_some, Option.map_none, reduceIte, decide_true, decide_false, Int.reduceLT, Int.reduceLE, Int.reduceMul, Int.reduceAdd, Int.reduceSub, h0, h1, h2, faA9, bp64, Int.reduceBEq, Int.reduceBNe, Int.reduceGT, Int.reduceGE] | (refine Wp.cond_true ?_ ?_; focus ((simp (disch := (first | (simp only [List.length_set, hl]; omega) | omega | rfl)) only [sL, aEval_tmp]); done)) | (refine Wp.cond_false ?_ ?_; focus ((simp (disch := (first | (simp only [List.length_set, hl]; omega) | omega | rfl)) only [sL, aEval_tmp]); done)))
  refine (u64RS1 c 23 (by (try simp only [pLens]); decide)).mono ?_
  intro v ha q
  rw [q.1]
  have c := q.2
  clear q
  repeat (first | (with_reducible refine Wp.st ?_; simp only [wS]) | with_reducible refine Wp.drawS (by decide +kernel) ?_ | simp (disch := (first | (simp only [List.length_set, hl]; omega) | omega | rfl)) only [walkA, walkB, bne_self_eq_false, beq_self_eq_true, Option.map_some, Option.map_none, reduceIte, decide_true, decide_false, Int.reduceLT, Int.reduceLE, Int.reduceMul, Int.reduceAdd, Int.reduceSub, h0, h1, h2, faA10, bp32, Int.reduceBEq, Int.reduceBNe, Int.reduceGT, Int.reduceGE] | (refine Wp.cond_true ?_ ?_; focus ((simp (disch := (first | (simp only [List.length_set, hl]; omega) | omega | rfl)) only [sL, aEval_tmp]); done)) | (refine Wp.cond_false ?_ ?_; focus ((simp (disch := (first | (simp only [List.length_set, hl]; omega) | omega | rfl)) only [sL, aEval_tmp]); done)))
  refine (u32RS1 c 24 (by (try simp only [pLens]); decide)).mono ?_
  intro v ha q
  rw [q.1]
  have c := q.2
  clear q
  repeat (first | (with_reducible refine Wp.st ?_; simp only [wS]) | with_reducible refine Wp.drawS (by decide +kernel) ?_ | simp (disch := (first | (simp only [List.length_set, hl]; omega) | omega | rfl)) only [walkA, walkB, bne_self_eq_false, beq_self_eq_true, Option.map_some, Option.map_none, reduceIte, decide_true, decide_false, Int.reduceLT, Int.reduceLE, Int.reduceMul, Int.reduceAdd, Int.reduceSub, h0, h1, h2, faA11, Int.reduceBEq, Int.reduceBNe, Int.reduceGT, Int.reduceGE] | (refine Wp.cond_true ?_ ?_; focus ((simp (disch := (first | (simp only [List.length_set, hl]; omega) | omega | rfl)) only [sL, aEval_tmp]); done)) | (refine Wp.cond_false ?_ ?_; focus ((simp (disch := (first | (simp only [List.length_set, hl]; omega) | omega | rfl)) only [sL, aEval_tmp]); done)))
  refine (numR_am Z H0 _ kc kr bv bs kt T L _ 25 0 2 0 c (by (try simp (disch := decide) only [pGets]); rfl)).mono ?_
  intro v ha q
  rw [q.1]
  have c := q.2
  clear q
  repeat (first | (with_reducible refine Wp.st ?_; simp only [wS]) | with_reducible refine Wp.drawS (by decide +kernel) ?_ | simp (disch := (first | (simp only [List.length_set, hl]; omega) | omega | rfl)) only [walkA, walkB, bne_self_eq_false, beq_self_eq_true, Option.map_some, Option.map_none, reduceIte, decide_true, decide_false, Int.reduceLT, Int.reduceLE, Int.reduceMul, Int.reduceAdd, Int.reduceSub, h0, h1, h2, faA14, Int.reduceBEq, Int.reduceBNe, Int.reduceGT, Int.reduceGE] | (refine Wp.cond_true ?_ ?_; focus ((simp (disch := (first | (simp only [List.length_set, hl]; omega) | omega | rfl)) only [sL, aEval_tmp]); done)) | (refine Wp.cond_false ?_ ?_; focus ((simp (disch := (first | (simp only [List.length_set, hl]; omega) | omega | rfl)) only [sL, aEval_tmp]); done)))
  have hnx := c.st.nx
  refine (rowR_am Z H0 _ kc kr bv bs kt T L _ _ _ 28 8192 c (by (try simp only [pLens]); decide)).mono ?_
  intro v hb q
  rw [q.1]
  obtain ⟨dv, c, ob⟩ := q.2
  clear q
  repeat (first | (with_reducible refine Wp.st ?_; simp only [wS]) | with_reducible refine Wp.drawS (by decide +kernel) ?_ | simp (disch := (first | (simp only [List.length_set, hl]; omega) | omega | rfl)) only [walkA, walkB, bne_self_eq_false, beq_self_eq_true, Option.map_some, Option.map_none, reduceIte, decide_true, decide_false, Int.reduceLT, Int.reduceLE, Int.reduceMul, Int.reduceAdd, Int.reduceSub, h0, h1, h2, Int.reduceBEq, Int.reduceBNe, Int.reduceGT, Int.reduceGE] | (refine Wp.cond_true ?_ ?_; focus ((simp (disch := (first | (simp only [List.length_set, hl]; omega) | omega | rfl)) only [sL, aEval_tmp]); done)) | (refine Wp.cond_false ?_ ?_; focus ((simp (disch := (first | (simp only [List.length_set, hl]; omega) | omega | rfl)) only [sL, aEval_tmp]); done)))
  simp only [aRes_none Try.results22]
  exact ⟨trivial, dv, c, ob.1, fun j hj => Nat.le_trans hnx (ob.2 j hj)⟩
set_option maxHeartbeats 1000000 in
theorem argsR_2 (s : Nat × Int) (bad : Bool) (c : CRS Z H0 h kc kr bv bs ⟨s, bad, argsZ⟩ kt T L) :
    Cl Try.prog 22 [pt kc 0, .int .i64 2, pt kt 0] h fun v h' => v = .tuple #[] ∧ AQ Z H0 h' kc kr bv bs (pArgs bs 2 ⟨s, bad, argsZ⟩) kt T L (pData bs 2 ⟨s, bad, argsZ⟩) := by
  refine Cl.enter Try.func22 rfl 159 Try.ntmps22 (by simp) ?_
  intro env hl ha
  have h0 : sl env 0 = pt kc 0 := ha 0 (by simp)
  have h1 : sl env 1 = .int .i64 2 := ha 1 (by simp)
  have h2 : sl env 2 = pt kt 0 := ha 2 (by simp)
  clear ha
  repeat (first | (with_reducible refine Wp.st ?_; simp only [wS]) | with_reducible refine Wp.drawS (by decide +kernel) ?_ | simp (disch := (first | (simp only [List.length_set, hl]; omega) | omega | rfl)) only [walkA, walkB, bne_self_eq_false, beq_self_eq_true, Option.map_some, Option.map_none, reduceIte, decide_true, decide_false, Int.reduceLT, Int.reduceLE, Int.reduceMul, Int.reduceAdd, Int.reduceSub, h0, h1, h2, faA0, Int.reduceBEq, Int.reduceBNe, Int.reduceGT, Int.reduceGE] | (refine Wp.cond_true ?_ ?_; focus ((simp (disch := (first | (simp only [List.length_set, hl]; omega) | omega | rfl)) only [sL, aEval_tmp]); done)) | (refine Wp.cond_false ?_ ?_; focus ((simp (disch := (first | (simp only [List.length_set, hl]; omega) | omega | rfl)) only [sL, aEval_tmp]); done)))
  refine (textR_am Z H0 _ kc kr bv bs kt T L _ 0 64 ⟨#[]⟩ c (by (try simp (disch := decide) only [pGets]); rfl) (by decide)).mono ?_
  intro v ha q
  rw [q.1]
  have c := q.2
  clear q
  repeat (first | (with_reducible refine Wp.st ?_; simp only [wS]) | with_reducible refine Wp.drawS (by decide +kernel) ?_ | simp (disch := (first | (simp only [List.length_set, hl]; omega) | omega | rfl)) only [walkA, walkB, bne_self_eq_false, beq_self_eq_true, Option.map_some, Option.map_none, reduceIte, decide_true, decide_false, Int.reduceLT, Int.reduceLE, Int.reduceMul, Int.reduceAdd, Int.reduceSub, h0, h1, h2, faA5, Int.reduceBEq, Int.reduceBNe, Int.reduceGT, Int.reduceGE] | (refine Wp.cond_true ?_ ?_; focus ((simp (disch := (first | (simp only [List.length_set, hl]; omega) | omega | rfl)) only [sL, aEval_tmp]); done)) | (refine Wp.cond_false ?_ ?_; focus ((simp (disch := (first | (simp only [List.length_set, hl]; omega) | omega | rfl)) only [sL, aEval_tmp]); done)))
  refine (setR_am Z H0 _ kc kr bv bs kt T L _ 5 c (by (try simp only [pLens]); decide) ⟨0, (by (try simp (disch := decide) only [pGets]); rfl)⟩ ⟨0, (by (try simp (disch := decide) only [pGets]); rfl)⟩ ⟨0, (by (try simp (disch := decide) only [pGets]); rfl)⟩).mono ?_
  intro v ha q
  rw [q.1]
  have c := q.2
  clear q
  repeat (first | (with_reducible refine Wp.st ?_; simp only [wS]) | with_reducible refine Wp.drawS (by decide +kernel) ?_ | simp (disch := (first | (simp only [List.length_set, hl]; omega) | omega | rfl)) only [walkA, walkB, bne_self_eq_false, beq_self_eq_true, Option.map_some, Option.map_none, reduceIte, decide_true, decide_false, Int.reduceLT, Int.reduceLE, Int.reduceMul, Int.reduceAdd, Int.reduceSub, h0, h1, h2, faA6, Int.reduceBEq, Int.reduceBNe, Int.reduceGT, Int.reduceGE] | (refine Wp.cond_true ?_ ?_; focus ((simp (disch := (first | (simp only [List.length_set, hl]; omega) | omega | rfl)) only [sL, aEval_tmp]); done)) | (refine Wp.cond_false ?_ ?_; focus ((simp (disch := (first | (simp only [List.length_set, hl]; omega) | omega | rfl)) only [sL, aEval_tmp]); done)))
  refine (truthRS_am Z H0 _ kc kr bv bs kt T L _ 19 c (by (try simp only [pLens]); decide)).mono ?_
  intro v ha q
  rw [q.1]
  have c := q.2
  clear q
  repeat (first | (with_reducible refine Wp.st ?_; simp only [wS]) | with_reducible refine Wp.drawS (by decide +kernel) ?_ | simp (disch := (first | (simp only [List.length_set, hl]; omega) | omega | rfl)) only [walkA, walkB, bne_self_eq_false, beq_self_eq_true, Option.map_some, Option.map_none, reduceIte, decide_true, decide_false, Int.reduceLT, Int.reduceLE, Int.reduceMul, Int.reduceAdd, Int.reduceSub, h0, h1, h2, Int.reduceBEq, Int.reduceBNe, Int.reduceGT, Int.reduceGE] | (refine Wp.cond_true ?_ ?_; focus ((simp (disch := (first | (simp only [List.length_set, hl]; omega) | omega | rfl)) only [sL, aEval_tmp]); done)) | (refine Wp.cond_false ?_ ?_; focus ((simp (disch := (first | (simp only [List.length_set, hl]; omega) | omega | rfl)) only [sL, aEval_tmp]); done)))
  have hd : (pArgs bs 2 ⟨s, bad, argsZ⟩).cs[28]? = some (.slice none 0 0) := by show (pIf bs 19 (pTime bs 20) (pSet bs 5 (pText bs 0 64 ⟨s, bad, argsZ⟩))).cs[28]? = _; rw [pIf_get (fun _ => pTime_get (by decide) (by decide)) (by decide)]; simp (disch := decide) only [pGets]; rfl
  have eA : pArgs bs 2 ⟨s, bad, argsZ⟩ = pIf bs 19 (pTime bs 20) (pSet bs 5 (pText bs 0 64 ⟨s, bad, argsZ⟩)) := rfl
  have hl9 : (pSet bs 5 (pText bs 0 64 ⟨s, bad, argsZ⟩)).cs.length = 36 := by simp only [pSet_len, pText_len]; rfl
  rw [eA] at hd ⊢
  generalize pSet bs 5 (pText bs 0 64 ⟨s, bad, argsZ⟩) = y at c hd hl9 ⊢
  cases hb : (rBool bs y.s).1 with
  | true =>
    have e1 : pIf bs 19 (pTime bs 20) y = pTime bs 20 (pBool bs 19 y) := by unfold pIf; rw [if_pos hb]
    rw [e1] at hd ⊢
    refine Wp.cond_true (by first | ((simp (disch := (first | (simp only [List.length_set, hl]; omega) | omega | rfl)) only [sL, aEval_tmp]); done) | ((simp (disch := (first | (simp only [List.length_set, hl]; omega) | omega | rfl)) only [sL, aEval_tmp]); rfl)) ?_
    repeat (first | (with_reducible refine Wp.st ?_; simp only [wS]) | with_reducible refine Wp.drawS (by decide +kernel) ?_ | simp (disch := (first | (simp only [List.length_set, hl]; omega) | omega | rfl)) only [walkA, walkB, bne_self_eq_false, beq_self_eq_true, Option.map_some, Option.map_none, reduceIte, decide_true, decide_false, Int.reduceLT, Int.reduceLE, Int.reduceMul, Int.reduceAdd, Int.reduceSub, h0, h1, h2, faA7, Int.reduceBEq, Int.reduceBNe, Int.reduceGT, Int.reduceGE] | (refine Wp.cond_true ?_ ?_; focus ((simp (disch := (first | (simp only [List.length_set, hl]; omega) | omega | rfl)) only [sL, aEval_tmp]); done)) | (refine Wp.cond_false ?_ ?_; focus ((simp (disch := (first | (simp only [List.length_set, hl]; omega) | omega | rfl)) only [sL, aEval_tmp]); done)))
    refine (timeR_am Z H0 _ kc kr bv bs kt T L _ 20 c (by rw [pBool_len]; omega)).mono ?_
    intro v hc q
    rw [q.1]
    have c := q.2
    clear q
    repeat (first | (with_reducible refine Wp.st ?_; simp only [wS]) | with_reducible refine Wp.drawS (by decide +kernel) ?_ | simp (disch := (first | (simp only [List.length_set, hl]; omega) | omega | rfl)) only [walkA, walkB, bne_self_eq_false, beq_self_eq_true, Option.map_some, Option.map_none, reduceIte, decide_true, decide_false, Int.reduceLT, Int.reduceLE, Int.reduceMul, Int.reduceAdd, Int.reduceSub, h0, h1, h2, Int.reduceBEq, Int.reduceBNe, Int.reduceGT, Int.reduceGE] | (refine Wp.cond_true ?_ ?_; focus ((simp (disch := (first | (simp only [List.length_set, hl]; omega) | omega | rfl)) only [sL, aEval_tmp]); done)) | (refine Wp.cond_false ?_ ?_; focus ((simp (disch := (first | (simp only [List.length_set, hl]; omega) | omega | rfl)) only [sL, aEval_tmp]); done)))
    simp only [aRes_none Try.results22]
    exact ⟨trivial, AQ.of c hd⟩
  | false =>
    have e1 : pIf bs 19 (pTime bs 20) y = pBool bs 19 y := by unfold pIf; rw [if_neg (by simp [hb])]
    rw [e1] at hd ⊢
    refine Wp.cond_false (by first | ((simp (disch := (first | (simp only [List.length_set, hl]; omega) | omega | rfl)) only [sL, aEval_tmp]); done) | ((simp (disch := (first | (simp only [List.length_set, hl]; omega) | omega | rfl)) only [sL, aEval_tmp]); rfl)) ?_
    repeat (first | (with_reducible refine Wp.st ?_; simp only [wS]) | with_reducible refine Wp.drawS (by decide +kernel) ?_ | simp (disch := (first | (simp only [List.length_set, hl]; omega) | omega | rfl)) only [walkA, walkB, bne_self_eq_false, beq_self_eq_true, Option.map_some, Option.map_none, reduceIte, decide_true, decide_false, Int.reduceLT, Int.reduceLE, Int.reduceMul, Int.reduceAdd, Int.reduceSub, h0, h1, h2, Int.reduceBEq, Int.reduceBNe, Int.reduceGT, Int.reduceGE] | (refine Wp.cond_true ?_ ?_; focus ((simp (disch := (first | (simp only [List.length_set, hl]; omega) | omega | rfl)) only [sL, aEval_tmp]); done)) | (refine Wp.cond_false ?_ ?_; focus ((simp (disch := (first | (simp only [List.length_set, hl]; omega) | omega | rfl)) only [sL, aEval_tmp]); done)))
    simp only [aRes_none Try.results22]
    exact ⟨trivial, AQ.of c hd⟩
end
end Go.Proofs.Ytanknjpcgceccaa

namespace Go.Proofs.Ytanknjpcgceccaa
open Go Go.AM
set_option linter.unusedSimpArgs false
set_option maxRecDepth 100000
def One (cs : List Value) : Prop := cs.all Value.oneCell' = true
theorem One.set {cs : List Value} {o : Nat} {v : Value} (h : One cs) (hv : v.oneCell' = true) : One (cs.set o v) :=
  List.all_eq_true.2 fun x hx => (List.mem_or_eq_of_mem_set hx).elim (List.all_eq_true.1 h x) (fun e => by rw [e]; exact hv)
section
variable {bs : List Int} {x : RS} {o t : Nat} {f : RS → RS}
theorem pU32_one (h : One x.cs) : One (pU32 bs o x).cs := One.set h rfl
theorem pU64_one (h : One x.cs) : One (pU64 bs o x).cs := One.set h rfl
theorem pBool_one (h : One x.cs) : One (pBool bs o x).cs := One.set h rfl
theorem pNum_one {a b : Int} (h : One x.cs) : One (pNum bs o a b x).cs := One.set h rfl
theorem pText_one {m : Int} (h : One x.cs) : One (pText bs o m x).cs := One.set h rfl
theorem pTime_one (h : One x.cs) : One (pTime bs o x).cs := pU32_one (pU32_one h)
theorem pNoTime_one (h : One x.cs) : One (pNoTime o x).cs := One.set (One.set h rfl) rfl
theorem pHow_one (h : One x.cs) : One (pHow bs o t x).cs := by
  unfold pHow; split
  · exact pTime_one (pNum_one h)
  · exact pNoTime_one (pNum_one h)
theorem pIf_one (hf : ∀ y : RS, One y.cs → One (f y).cs) (h : One x.cs) : One (pIf bs o f x).cs := by
  unfold pIf; split
  · exact hf _ (pBool_one h)
  · exact pBool_one h
theorem pSet_one (h : One x.cs) : One (pSet bs o x).cs :=
  pHow_one (pHow_one (pIf_one (fun _ => pU64_one) (pIf_one (fun _ => pU32_one) (pIf_one (fun _ => pU32_one) (pIf_one (fun _ => pNum_one) h)))))
theorem pNamed_one {p : Int} (h : One x.cs) : One (pNamed bs p x).cs := by
  unfold pNamed
  split
  · split
    · exact pU64_one (pNum_one h)
    · exact pSet_one (pNum_one h)
  split
  · exact pSet_one h
  split
  · exact pText_one (pSet_one h)
  split
  · split
    · exact pU32_one (pU32_one (pSet_one (pNum_one h)))
    · split
      · exact pSet_one (pNum_one h)
      · exact pNum_one h
  split
  · exact pText_one (pText_one h)
  · exact h
theorem pArgs_one {p : Int} (h : One x.cs) : One (pArgs bs p x).cs := by
  unfold pArgs
  split
  · exact h
  split
  · exact pText_one h
  split
  · exact pIf_one (fun _ => pTime_one) (pSet_one (pText_one h))
  split
  · exact pU32_one (pText_one h)
  split
  · exact pU32_one (pU64_one (pText_one h))
  split
  · exact pNum_one (a := 0) (b := 2) (pU32_one (pU64_one (pText_one h)))
  split
  · exact pText_one (pText_one (pText_one h))
  split
  · exact pU32_one (pU64_one (pU64_one (pText_one h)))
  split
  · exact pU32_one (pU32_one (pU64_one (pU64_one (pText_one h))))
  split
  · exact pNamed_one (pText_one (pText_one h))
  · exact pText_one h
theorem pNamed_len {p : Int} : (pNamed bs p x).cs.length = x.cs.length := by
  unfold pNamed
  split
  · split <;> simp only [pText_len, pNum_len, pU32_len, pU64_len, pSet_len]
  split
  · simp only [pSet_len]
  split
  · simp only [pText_len, pSet_len]
  split
  · split
    · simp only [pNum_len, pU32_len, pSet_len]
    · split <;> simp only [pNum_len, pSet_len]
  split
  · simp only [pText_len]
  · rfl
theorem pArgs_len {p : Int} : (pArgs bs p x).cs.length = x.cs.length := by
  unfold pArgs
  split
  · rfl
  split
  · exact pText_len
  split
  · rw [pIf_len (fun _ => pTime_len), pSet_len, pText_len]
  split
  · simp only [pText_len, pU32_len]
  split
  · simp only [pText_len, pU32_len, pU64_len]
  split
  · simp only [pText_len, pU32_len, pU64_len, pNum_len]
  split
  · simp only [pText_len]
  split
  · simp only [pText_len, pU32_len, pU64_len]
  split
  · simp only [pText_len, pU32_len, pU64_len]
  split
  · simp only [pText_len, pNamed_len]
  · simp only [pText_len]
end
theorem setL_all : ∀ (vs pre cs : List Value), pre.length + vs.length = cs.length → cs.take pre.length = pre → setL cs pre.length vs = pre ++ vs
  | [], pre, cs, h, hp => by
    simp only [setL, List.append_nil]
    rw [List.take_of_length_le (by simp at h; omega)] at hp
    exact hp
  | v :: vs, pre, cs, h, hp => by
    simp only [List.length_cons] at h
    have ih := setL_all vs (pre ++ [v]) (cs.set pre.length v) (by simp; omega) (by
      rw [List.length_append, List.length_singleton, List.take_succ_eq_append_getElem (by simp; omega), List.getElem_set_self, List.take_set_of_le (Nat.le_refl _), hp])
    rw [List.length_append, List.length_singleton] at ih
    simp only [setL]
    rw [ih, List.append_assoc]; rfl
theorem setL_whole (vs cs : List Value) (h : vs.length = cs.length) : setL cs 0 vs = vs := by
  have := setL_all vs [] cs (by simpa using h) rfl
  simpa using this
section
variable {P : Program} {Z : Nat → Prop} {H0 h : Heap} {L : List Blk} {k : Nat} {cs vs : List Value} {T t : TypeId} {i : TypeInfo} {fs : Array Field}
theorem _root_.Go.AM.St.ldS (s : St Z H0 h ((k, cs, T) :: L)) (hu : P.underlying t = some (.struct fs)) (hi : P.info? t = some i) (hs : i.size = cs.length) : aLoad P h t (pt k 0) = some (.agg cs.toArray) := by
  rw [aLoad_struct hu hi, rdN, s.hd]
  have : Nat.ble (0 + i.size) cs.length = true := ble_iff.2 (by omega)
  have e : Nat.ble cs.length cs.length = true := ble_iff.2 (Nat.le_refl _)
  simp [this, hs, e]
theorem _root_.Go.AM.St.stS (s : St Z H0 h ((k, cs, T) :: L)) (hi : P.info? t = some i) (hs : i.size = cs.length) (hv : vs.length = cs.length) (h1 : One vs) :
    aStore P h t (pt k 0) (.agg vs.toArray) = some (h.set k (.cells vs T false)) ∧ St Z H0 (h.set k (.cells vs T false)) ((k, vs, T) :: L) := by
  have e1 : (Value.agg vs.toArray).cells = vs.toArray := rfl
  have e2 : Nat.ble (0 + vs.length) cs.length = true := ble_iff.2 (by omega)
  refine ⟨?_, s.upd (Same.set1 _ _ _) (Heap.get_set_eq s.hd)⟩
  have h1' : vs.all Value.oneCell' = true := h1
  have e : Nat.ble cs.length cs.length = true := ble_iff.2 (Nat.le_refl _)
  simp [aStore, hi, e1, hs, hv, wrN, s.hd, h1', setL_whole vs cs hv, e]
end
theorem aRes_cell {fn : Func} {h : Heap} {e : List Value} {a b : Nat} {t : TypeId} {v : Value} (hr : fn.results = #[.cell a t, .tmp b]) (hl : aLoad Try.prog h t (sl e a) = some v) : aResults Try.prog fn h e = some (.tuple #[v, sl e b]) := by
  have e1 : e.getD a undef = sl e a := rfl
  have e2 : e.getD b undef = sl e b := rfl
  simp only [aResults, hr, aRes, e1, e2, hl]
abbrev TA : TypeId := 30
theorem iArgs : Try.prog.info? 30 = some Try.t30 := by kernel_rfl
theorem alArgs {h : Heap} : aAlloc Try.prog h 30 = some (pt h.next 0, h.push (.cells argsZ TA false)) := by kernel_rfl
theorem bArgs : aBuild Try.prog 30 [] = some (.agg argsZ.toArray) := by kernel_rfl
theorem bCoder {a : Addr} : aBuild Try.prog 69 [(0, .pointer (some a))] = some (.agg #[.pointer (some a), .pointer none, .bool false]) := by kernel_rfl
theorem xCoder {h : Heap} {a : Addr} : aBox h 69 (.agg #[.pointer (some a), .pointer none, .bool false]) = some (pt h.next 0, h.push (.cells [.pointer (some a), .pointer none, .bool false] TC false)) := by kernel_rfl
theorem argsZ_one : One argsZ := by unfold One; rfl
theorem endedR_am {Z : Nat → Prop} {H0 h : Heap} {kc kr : Nat} {bv : Value} {bs : List Int} {s : Nat × Int} {bad : Bool} {L : List Blk} (c : CR Z H0 h kc kr bv bs s bad L) :
    Cl Try.prog 23 [pt kc 0] h fun v h' => v = .bool (!bad && (s.2 == 0) && (bs.length - s.1 == 0)) ∧ h' = h := by
  refine Cl.enter Try.func23 rfl 24 Try.ntmps23 (by simp) ?_
  intro env hl ha
  have h0 : sl env 0 = pt kc 0 := ha 0 (by simp)
  clear ha
  have lb := c.lb
  have lr := c.lr
  cases bad with
  | true =>
    repeat (first | (with_reducible refine Wp.st ?_; simp only [wS]) | with_reducible refine Wp.drawS (by decide +kernel) ?_ | simp (disch := (first | (simp only [List.length_set, hl]; omega) | omega | rfl)) only [walkA, walkB, bne_self_eq_false, beq_self_eq_true, Option.map_some, Option.map_none, reduceIte, decide_true, decide_false, Int.reduceLT, Int.reduceLE, Int.reduceMul, Int.reduceAdd, Int.reduceSub, h0, faC2, lb])
    simp (disch := (first | (simp only [List.length_set, hl]; omega) | omega | rfl)) only [aRes_one Try.results23, sL]
    exact ⟨by simp, trivial⟩
  | false =>
    repeat (first | (with_reducible refine Wp.st ?_; simp only [wS]) | with_reducible refine Wp.drawS (by decide +kernel) ?_ | simp (disch := (first | (simp only [List.length_set, hl]; omega) | omega | rfl)) only [walkA, walkB, bne_self_eq_false, beq_self_eq_true, Option.map_some, Option.map_none, reduceIte, decide_true, decide_false, Int.reduceLT, Int.reduceLE, Int.reduceMul, Int.reduceAdd, Int.reduceSub, h0, faC0, faC2, lb, lr])
    refine Cl.pure (rErr_am kr _ bv s h c.rd.rd) ?_
    by_cases hz : s.2 = 0
    · have d : (s.2 == 0) = true := by simpa using hz
      repeat (first | (with_reducible refine Wp.st ?_; simp only [wS]) | with_reducible refine Wp.drawS (by decide +kernel) ?_ | simp (disch := (first | (simp only [List.length_set, hl]; omega) | omega | rfl)) only [walkA, walkB, bne_self_eq_false, beq_self_eq_true, Option.map_some, Option.map_none, reduceIte, decide_true, decide_false, Int.reduceLT, Int.reduceLE, Int.reduceMul, Int.reduceAdd, Int.reduceSub, h0, faC0, faC2, lb, lr, d])
      refine Cl.pure (rLeft_am kr _ bv bs s h c.rd) ?_
      have hp := c.pos
      have e : (((bs.length : Int) - (s.1 : Int)) == 0) = (bs.length - s.1 == 0) := by
        rw [Bool.eq_iff_iff]; simp only [beq_iff_eq]; omega
      repeat (first | (with_reducible refine Wp.st ?_; simp only [wS]) | with_reducible refine Wp.drawS (by decide +kernel) ?_ | simp (disch := (first | (simp only [List.length_set, hl]; omega) | omega | rfl)) only [walkA, walkB, bne_self_eq_false, beq_self_eq_true, Option.map_some, Option.map_none, reduceIte, decide_true, decide_false, Int.reduceLT, Int.reduceLE, Int.reduceMul, Int.reduceAdd, Int.reduceSub, h0, e])
      simp (disch := (first | (simp only [List.length_set, hl]; omega) | omega | rfl)) only [aRes_one Try.results23, sL]
      exact ⟨by simp [hz], trivial⟩
    · have d : (s.2 == 0) = false := by simpa using hz
      repeat (first | (with_reducible refine Wp.st ?_; simp only [wS]) | with_reducible refine Wp.drawS (by decide +kernel) ?_ | simp (disch := (first | (simp only [List.length_set, hl]; omega) | omega | rfl)) only [walkA, walkB, bne_self_eq_false, beq_self_eq_true, Option.map_some, Option.map_none, reduceIte, decide_true, decide_false, Int.reduceLT, Int.reduceLE, Int.reduceMul, Int.reduceAdd, Int.reduceSub, h0, faC0, faC2, lb, lr, d])
      simp (disch := (first | (simp only [List.length_set, hl]; omega) | omega | rfl)) only [aRes_one Try.results23, sL]
      exact ⟨by simp [hz], trivial⟩
theorem WGd_undef {P : Program} {ops : Array Oper} {Q : List Value → Heap → Prop} {o : Oper} {l : List Oper} {env : List Value} {h : Heap} {d : Option Tmp} {want : Bool} : WGd P ops Q o l env h d want undef = WOps P ops Q l (aPut env d undef) h := rfl
theorem perm4 {Z : Nat → Prop} {H0 h : Heap} {a b c d : Blk} {L : List Blk} (s : St Z H0 h (a :: b :: c :: d :: L)) : St Z H0 h (d :: c :: a :: b :: L) :=
  s.perm ((((List.Perm.swap d c L).cons b).cons a).trans ((((List.Perm.swap d b (c :: L)).cons a)).trans ((List.Perm.swap d a (b :: c :: L)).trans ((((List.Perm.swap c b L).cons a).cons d).trans ((List.Perm.swap c a (b :: L)).cons d)))))
def there (p : Int) : Bool := (decide (0 ≤ p) && decide (p ≤ 21)) || (decide (100 ≤ p) && decide (p ≤ 105))
theorem is_am (p : Int) (h : Heap) : Cl Try.prog 20 [.int .i64 p] h fun v h' => v = .bool (there p) ∧ h' = h := by
  refine Cl.enter Try.func20 rfl 17 Try.ntmps20 (by simp) ?_
  intro env hl ha
  have h0 : sl env 0 = .int .i64 p := ha 0 (by simp)
  clear ha
  by_cases c1 : 0 ≤ p
  · have d1 : decide (p ≥ 0) = true := decide_eq_true c1
    by_cases c2 : p ≤ 21
    · have d2 : decide (p ≤ 21) = true := decide_eq_true c2
      repeat (first | (with_reducible refine Wp.st ?_; simp only [wS]) | with_reducible refine Wp.drawS (by decide +kernel) ?_ | simp (disch := (first | (simp only [List.length_set, hl]; omega) | omega | rfl)) only [walkA, walkB, bne_self_eq_false, beq_self_eq_true, Option.map_some, Option.map_none, reduceIte, decide_true, decide_false, Int.reduceLT, Int.reduceLE, Int.reduceMul, Int.reduceAdd, Int.reduceSub, h0, d1, d2, WGd_undef])
      simp (disch := (first | (simp only [List.length_set, hl]; omega) | omega | rfl)) only [aRes_one Try.results20, sL]
      exact ⟨by simp [there, c1, c2], trivial⟩
    · have d2 : decide (p ≤ 21) = false := decide_eq_false c2
      by_cases c3 : 100 ≤ p
      · have d3 : decide (p ≥ 100) = true := decide_eq_true c3
        repeat (first | (with_reducible refine Wp.st ?_; simp only [wS]) | with_reducible refine Wp.drawS (by decide +kernel) ?_ | simp (disch := (first | (simp only [List.length_set, hl]; omega) | omega | rfl)) only [walkA, walkB, bne_self_eq_false, beq_self_eq_true, Option.map_some, Option.map_none, reduceIte, decide_true, decide_false, Int.reduceLT, Int.reduceLE, Int.reduceMul, Int.reduceAdd, Int.reduceSub, h0, d1, d2, d3])
        simp (disch := (first | (simp only [List.length_set, hl]; omega) | omega | rfl)) only [aRes_one Try.results20, sL]
        exact ⟨by simp [there, c1, c2, c3], trivial⟩
      · have d3 : decide (p ≥ 100) = false := decide_eq_false c3
        repeat (first | (with_reducible refine Wp.st ?_; simp only [wS]) | with_reducible refine Wp.drawS (by decide +kernel) ?_ | simp (disch := (first | (simp only [List.length_set, hl]; omega) | omega | rfl)) only [walkA, walkB, bne_self_eq_false, beq_self_eq_true, Option.map_some, Option.map_none, reduceIte, decide_true, decide_false, Int.reduceLT, Int.reduceLE, Int.reduceMul, Int.reduceAdd, Int.reduceSub, h0, d1, d2, d3])
        simp (disch := (first | (simp only [List.length_set, hl]; omega) | omega | rfl)) only [aRes_one Try.results20, sL]
        exact ⟨by simp [there, c1, c2, c3], trivial⟩
  · have d1 : decide (p ≥ 0) = false := decide_eq_false c1
    have d3 : decide (p ≥ 100) = false := decide_eq_false (by omega)
    repeat (first | (with_reducible refine Wp.st ?_; simp only [wS]) | with_reducible refine Wp.drawS (by decide +kernel) ?_ | simp (disch := (first | (simp only [List.length_set, hl]; omega) | omega | rfl)) only [walkA, walkB, bne_self_eq_false, beq_self_eq_true, Option.map_some, Option.map_none, reduceIte, decide_true, decide_false, Int.reduceLT, Int.reduceLE, Int.reduceMul, Int.reduceAdd, Int.reduceSub, h0, d1, d3])
    simp (disch := (first | (simp only [List.length_set, hl]; omega) | omega | rfl)) only [aRes_one Try.results20, sL]
    exact ⟨by simp [there, c1]; omega, trivial⟩
theorem there_cases {p : Int} (h : there p = true) : p = 0 ∨ p = 1 ∨ p = 2 ∨ p = 3 ∨ p = 4 ∨ p = 5 ∨ p = 6 ∨ p = 7 ∨ p = 8 ∨ p = 9 ∨ p = 10 ∨ p = 11 ∨ p = 12 ∨ p = 13 ∨ p = 14 ∨ p = 15 ∨ p = 16 ∨ p = 17 ∨ p = 18 ∨ p = 19 ∨ p = 20 ∨ p = 21 ∨ p = 100 ∨ p = 101 ∨ p = 102 ∨ p = 103 ∨ p = 104 ∨ p = 105 := by
  simp [there] at h; omega
theorem argsR_am (Z : Nat → Prop) (H0 h : Heap) (kc kr : Nat) (bv : Value) (bs : List Int) (kt : Nat) (T : TypeId) (L : List Blk) (p : Int) (hp : there p = true) (s : Nat × Int) (bad : Bool) (c : CRS Z H0 h kc kr bv bs ⟨s, bad, argsZ⟩ kt T L) :
    Cl Try.prog 22 [pt kc 0, .int .i64 p, pt kt 0] h fun v h' => v = .tuple #[] ∧ AQ Z H0 h' kc kr bv bs (pArgs bs p ⟨s, bad, argsZ⟩) kt T L (pData bs p ⟨s, bad, argsZ⟩) := by
  rcases there_cases hp with rfl | rfl | rfl | rfl | rfl | rfl | rfl | rfl | rfl | rfl | rfl | rfl | rfl | rfl | rfl | rfl | rfl | rfl | rfl | rfl | rfl | rfl | rfl | rfl | rfl | rfl | rfl | rfl
  · exact argsR_g0 Z H0 h kc kr bv bs kt T L _ (by decide) s bad c
  · exact argsR_g1 Z H0 h kc kr bv bs kt T L _ (by decide) s bad c
  · exact argsR_2 Z H0 h kc kr bv bs kt T L s bad c
  · exact argsR_g3 Z H0 h kc kr bv bs kt T L _ (by decide) s bad c
  · exact argsR_g4 Z H0 h kc kr bv bs kt T L _ (by decide) s bad c
  · exact argsR_g1 Z H0 h kc kr bv bs kt T L _ (by decide) s bad c
  · exact argsR_g6 Z H0 h kc kr bv bs kt T L _ (by decide) s bad c
  · exact argsR_7 Z H0 h kc kr bv bs kt T L s bad c
  · exact argsR_g3 Z H0 h kc kr bv bs kt T L _ (by decide) s bad c
  · exact argsR_g3 Z H0 h kc kr bv bs kt T L _ (by decide) s bad c
  · exact argsR_g3 Z H0 h kc kr bv bs kt T L _ (by decide) s bad c
  · exact argsR_g3 Z H0 h kc kr bv bs kt T L _ (by decide) s bad c
  · exact argsR_g3 Z H0 h kc kr bv bs kt T L _ (by decide) s bad c
  · exact argsR_g3 Z H0 h kc kr bv bs kt T L _ (by decide) s bad c
  · exact argsR_g3 Z H0 h kc kr bv bs kt T L _ (by decide) s bad c
  · exact argsR_g15 Z H0 h kc kr bv bs kt T L _ (by decide) s bad c
  · exact argsR_g16 Z H0 h kc kr bv bs kt T L _ (by decide) s bad c
  · exact argsR_g17 Z H0 h kc kr bv bs kt T L _ (by decide) s bad c
  · exact argsR_g1 Z H0 h kc kr bv bs kt T L _ (by decide) s bad c
  · exact argsR_g1 Z H0 h kc kr bv bs kt T L _ (by decide) s bad c
  · exact argsR_g1 Z H0 h kc kr bv bs kt T L _ (by decide) s bad c
  · exact argsR_g6 Z H0 h kc kr bv bs kt T L _ (by decide) s bad c
  · exact argsR_g0 Z H0 h kc kr bv bs kt T L _ (by decide) s bad c
  · exact argsR_g101 Z H0 h kc kr bv bs kt T L _ (by decide) s bad c
  · exact argsR_g0 Z H0 h kc kr bv bs kt T L _ (by decide) s bad c
  · exact argsR_g101 Z H0 h kc kr bv bs kt T L _ (by decide) s bad c
  · exact argsR_g0 Z H0 h kc kr bv bs kt T L _ (by decide) s bad c
  · exact argsR_g0 Z H0 h kc kr bv bs kt T L _ (by decide) s bad c
theorem row_lt {h : Heap} {v : Value} {vs : List Value} (r : Row h v vs) : ∀ a n c, v = .slice (some a) n c → n ≠ 0 → a.block < h.next := fun a n c e hn => by
  rcases r with ⟨rfl, _⟩ | ⟨_, k, off, d, rfl⟩ | ⟨k, off, cap, cs, hl, ro, rfl, hg, _⟩
  · cases e
  · injection e with _ e2; exact absurd e2.symm hn
  · injection e with e1; injection e1 with e1; subst e1; exact Heap.get_lt hg
theorem buf_blk {h : Heap} {hl : TypeId} {v : Value} {vs : List Value} {n0 : Nat} (b : Buf h hl v vs) (hf : ∀ j, bufBlk v j → n0 ≤ j) : ∀ a n c, v = .slice (some a) n c → n ≠ 0 → n0 ≤ a.block ∧ a.block < h.next := fun a n c e hn => by
  refine ⟨?_, b.blk e⟩
  rcases b with ⟨e2, _⟩ | ⟨_, k, cs, e', ro, e2, _⟩ | ⟨k, cap, e2, _⟩
  · rw [e2] at e; cases e
  · rw [e2] at e; injection e with _ e3; exact absurd e3.symm hn
  · exact hf _ ⟨0, _, _, by rw [e2] at e; injection e with e3; injection e3 with e3; subst e3; exact e2⟩
def rdArgs (bs : List Int) (p : Int) : List Value × List Int × Int :=
  if there p = true then
    (let r := pArgs bs p ⟨(0, 0), false, argsZ⟩
     if r.bad = false ∧ r.s.2 = 0 ∧ r.s.1 = bs.length then (r.cs, pData bs p ⟨(0, 0), false, argsZ⟩, 0) else (argsZ, [], 33))
  else (argsZ, [], 36)
theorem readArgs_am (p : Int) (bv : Value) (bs : List Int) (h : Heap) (hr : Row h bv (bs.map (Value.int .u8))) (hlen : bs.length ≤ 1000000000) (hby : ∀ b ∈ bs, 0 ≤ b ∧ b < 256) :
    Cl Try.prog 10 [.int .i64 p, bv] h fun v h' => ∃ dv, v = .tuple #[.agg ((rdArgs bs p).1.set 28 dv).toArray, .int .i64 (rdArgs bs p).2.2] ∧ OutB h h' dv (rdArgs bs p).2.1 ∧ Same h h' noS := by
  refine Cl.enter Try.func10 rfl 24 Try.ntmps10 (by simp) ?_
  intro env hl ha
  have h0 : sl env 0 = .int .i64 p := ha 0 (by simp)
  have h1 : sl env 1 = bv := ha 1 (by simp)
  clear ha
  have a28 : argsZ.set 28 (.slice none 0 0) = argsZ := rfl
  have Zlow : ∀ j, (fun j => j < h.next) j → j < h.next := fun _ x => x
  have s0 := (St.nil (fun j => j < h.next) h Zlow).push argsZ TA
  repeat (first | (with_reducible refine Wp.st ?_; simp only [wS]) | with_reducible refine Wp.drawS (by decide +kernel) ?_ | simp (disch := (first | (simp only [List.length_set, hl]; omega) | omega | rfl)) only [walkA, walkB, bne_self_eq_false, beq_self_eq_true, Option.map_some, Option.map_none, reduceIte, decide_true, decide_false, Int.reduceLT, Int.reduceLE, Int.reduceMul, Int.reduceAdd, Int.reduceSub, h0, h1, alArgs])
  refine Cl.pure (is_am p _) ?_
  cases hp : there p with
  | false =>
    have p1 := s0.stS iArgs rfl rfl argsZ_one (t := TA)
    have p2 := p1.1
    have l1 := p1.2.ldS Try.underlying30 iArgs rfl
    repeat (first | (with_reducible refine Wp.st ?_; simp only [wS]) | with_reducible refine Wp.drawS (by decide +kernel) ?_ | simp (disch := (first | (simp only [List.length_set, hl]; omega) | omega | rfl)) only [walkA, walkB, bne_self_eq_false, beq_self_eq_true, Option.map_some, Option.map_none, reduceIte, decide_true, decide_false, Int.reduceLT, Int.reduceLE, Int.reduceMul, Int.reduceAdd, Int.reduceSub, h0, h1])
    refine Wp.cond_true (by first | ((simp (disch := (first | (simp only [List.length_set, hl]; omega) | omega | rfl)) only [sL, aEval_tmp]); done) | ((simp (disch := (first | (simp only [List.length_set, hl]; omega) | omega | rfl)) only [sL, aEval_tmp]); rfl)) ?_
    repeat (first | (with_reducible refine Wp.st ?_; simp only [wS]) | with_reducible refine Wp.drawS (by decide +kernel) ?_ | simp (disch := (first | (simp only [List.length_set, hl]; omega) | omega | rfl)) only [walkA, walkB, bne_self_eq_false, beq_self_eq_true, Option.map_some, Option.map_none, reduceIte, decide_true, decide_false, Int.reduceLT, Int.reduceLE, Int.reduceMul, Int.reduceAdd, Int.reduceSub, h0, h1, bArgs, p2])
    have er : rdArgs bs p = (argsZ, [], 36) := by unfold rdArgs; rw [if_neg (by simp [hp])]
    rw [aRes_cell (v := .agg argsZ.toArray) Try.results10 (by (simp (disch := (first | (simp only [List.length_set, hl]; omega) | omega | rfl)) only [sL]); exact l1)]
    rw [er]
    refine ⟨.slice none 0 0, by rw [a28]; (simp (disch := (first | (simp only [List.length_set, hl]; omega) | omega | rfl)) only [sL]), OutB.nil, p1.2.nx, fun j e he _ => p1.2.stay j e he (Heap.get_lt he)⟩
  | true =>
    have s1 := s0.push argsZ TA
    repeat (first | (with_reducible refine Wp.st ?_; simp only [wS]) | with_reducible refine Wp.drawS (by decide +kernel) ?_ | simp (disch := (first | (simp only [List.length_set, hl]; omega) | omega | rfl)) only [walkA, walkB, bne_self_eq_false, beq_self_eq_true, Option.map_some, Option.map_none, reduceIte, decide_true, decide_false, Int.reduceLT, Int.reduceLE, Int.reduceMul, Int.reduceAdd, Int.reduceSub, h0, h1])
    refine Wp.cond_false (by first | ((simp (disch := (first | (simp only [List.length_set, hl]; omega) | omega | rfl)) only [sL, aEval_tmp]); done) | ((simp (disch := (first | (simp only [List.length_set, hl]; omega) | omega | rfl)) only [sL, aEval_tmp]); rfl)) ?_
    repeat (first | (with_reducible refine Wp.st ?_; simp only [wS]) | with_reducible refine Wp.drawS (by decide +kernel) ?_ | simp (disch := (first | (simp only [List.length_set, hl]; omega) | omega | rfl)) only [walkA, walkB, bne_self_eq_false, beq_self_eq_true, Option.map_some, Option.map_none, reduceIte, decide_true, decide_false, Int.reduceLT, Int.reduceLE, Int.reduceMul, Int.reduceAdd, Int.reduceSub, h0, h1, alArgs])
    refine (newReader_am bv bs _ (s1.stayed hr (row_lt hr)) hlen hby).mono ?_
    intro v h3 q
    obtain ⟨k1, b1, hv, hk1, ro, hbuf, hbf, hs⟩ := q
    rw [hv]
    have s1' := s1.same hs
    have hbb := buf_blk hbuf hbf
    have l4 : h.next < (h.push (.cells argsZ TA false)).next := by simp
    have lA : (h.push (.cells argsZ TA false)).next < ((h.push (.cells argsZ TA false)).push (.cells argsZ TA false)).next := by simp
    have st3 : St (fun j => j < h.next ∨ ∃ a n c, b1 = .slice (some a) n c ∧ n ≠ 0 ∧ a.block = j) h3 h3 [(k1, [b1, .int .i64 (0, (0 : Int)).1, .int .i64 (0, (0 : Int)).2], TRd), ((h.push (.cells argsZ TA false)).next, argsZ, TA), (h.next, argsZ, TA)] := by
      refine ⟨Nat.le_refl _, fun _ _ e _ => e, fun x hx => ?_, ?_, fun x hx => ?_, fun j hj => ?_⟩
      · rcases List.mem_cons.1 hx with rfl | hx
        · exact ro.rd
        · exact s1'.get x hx
      · have := s1'.nodup
        simp only [List.map_cons, List.map_nil, List.nodup_cons, List.mem_cons, List.not_mem_nil, or_false, not_false_eq_true, List.nodup_nil, and_true] at this ⊢
        refine ⟨fun hh => ?_, this⟩
        rcases hh with hh | hh <;> omega
      · rcases List.mem_cons.1 hx with rfl | hx
        · rintro (hh | ⟨a, n, c, e, hn, rfl⟩)
          · simp only at hh; omega
          · exact ro.off a n c e hn rfl
        · rintro (hh | ⟨a, n, c, e, hn, he⟩)
          · exact s1'.off x hx hh
          · have h1 := (hbb a n c e hn).1
            rcases List.mem_cons.1 hx with rfl | hx
            · simp only at he; omega
            · obtain rfl := List.mem_singleton.1 hx
              simp only at he; omega
      · rcases hj with hj | ⟨a, n, c, e, hn, rfl⟩
        · exact Nat.lt_of_lt_of_le hj s1'.nx
        · exact (hbb a n c e hn).2
    have st4 := st3.push [pt k1 0, .pointer none, .bool false] TC
    have c : CRS (fun j => j < h.next ∨ ∃ a n c, b1 = .slice (some a) n c ∧ n ≠ 0 ∧ a.block = j) h3 _ h3.next k1 b1 bs ⟨(0, 0), false, argsZ⟩ (h.push (.cells argsZ TA false)).next TA [(h.next, argsZ, TA)] :=
      ⟨st4, ro.row, fun a n d e hn => .inr ⟨a, n, d, e, hn, rfl⟩, hlen, Nat.zero_le _, hby⟩
    have keepAll : ∀ {h5 : Heap} {L : List Blk}, St (fun j => j < h.next ∨ ∃ a n c, b1 = .slice (some a) n c ∧ n ≠ 0 ∧ a.block = j) h3 h5 L → Same h h5 noS := fun q => ⟨Nat.le_trans s1'.nx q.nx, fun j e he _ => q.stay j e (s1'.stay j e he (Heap.get_lt he)) (.inl (Heap.get_lt he))⟩
    have hn3 : h.next < h3.next := Nat.lt_of_lt_of_le (Nat.lt_trans l4 lA) hs.1
    generalize (h.push (.cells argsZ TA false)).next = ka at c
    generalize hh4 : h3.push (.cells [pt k1 0, .pointer none, .bool false] TC false) = h4 at c
    generalize hkc : h3.next = kc at c
    have xc : aBox h3 69 (.agg #[.pointer (some ⟨k1, 0, none⟩), .pointer none, .bool false]) = some (pt kc 0, h4) := by rw [← hh4, ← hkc]; exact xCoder
    repeat (first | (with_reducible refine Wp.st ?_; simp only [wS]) | with_reducible refine Wp.drawS (by decide +kernel) ?_ | simp (disch := (first | (simp only [List.length_set, hl]; omega) | omega | rfl)) only [walkA, walkB, bne_self_eq_false, beq_self_eq_true, Option.map_some, Option.map_none, reduceIte, decide_true, decide_false, Int.reduceLT, Int.reduceLE, Int.reduceMul, Int.reduceAdd, Int.reduceSub, h0, h1, bCoder, xc])
    refine (argsR_am _ h3 _ kc k1 b1 bs ka TA _ p hp (0, 0) false c).mono ?_
    intro v h5 q
    rw [q.1]
    obtain ⟨dv, c5, ob⟩ := q.2
    clear q
    have hlen36 : (pArgs bs p ⟨(0, 0), false, argsZ⟩).cs.length = 36 := by rw [pArgs_len]; rfl
    have hone : One (pArgs bs p ⟨(0, 0), false, argsZ⟩).cs := pArgs_one argsZ_one
    have er : rdArgs bs p = (let r := pArgs bs p ⟨(0, 0), false, argsZ⟩; if r.bad = false ∧ r.s.2 = 0 ∧ r.s.1 = bs.length then (r.cs, pData bs p ⟨(0, 0), false, argsZ⟩, 0) else (argsZ, [], 33)) := by unfold rdArgs; rw [if_pos hp]
    rw [er]
    generalize pArgs bs p ⟨(0, 0), false, argsZ⟩ = r at c5 hlen36 hone ⊢
    generalize pData bs p ⟨(0, 0), false, argsZ⟩ = ds at ob ⊢
    obtain ⟨a, n, d, hdv⟩ := buf_slice ob.1
    have hone2 : One (r.cs.set 28 dv) := One.set hone (by rw [hdv]; rfl)
    have hpos := c5.pos
    repeat (first | (with_reducible refine Wp.st ?_; simp only [wS]) | with_reducible refine Wp.drawS (by decide +kernel) ?_ | simp (disch := (first | (simp only [List.length_set, hl]; omega) | omega | rfl)) only [walkA, walkB, bne_self_eq_false, beq_self_eq_true, Option.map_some, Option.map_none, reduceIte, decide_true, decide_false, Int.reduceLT, Int.reduceLE, Int.reduceMul, Int.reduceAdd, Int.reduceSub, h0, h1])
    refine Cl.pure (endedR_am c5) ?_
    have st5 := perm4 c5.st
    by_cases hok : r.bad = false ∧ r.s.2 = 0 ∧ r.s.1 = bs.length
    · obtain ⟨b1', b2', b3'⟩ := hok
      have d : (!r.bad && (r.s.2 == 0) && (bs.length - r.s.1 == 0)) = true := by simp [b1', b2', b3']
      have l6 := st5.swap.ldS Try.underlying30 iArgs (by rw [List.length_set, hlen36]; rfl) (t := TA)
      have p1 := st5.stS (vs := r.cs.set 28 dv) iArgs rfl (by rw [List.length_set, hlen36]; rfl) hone2 (t := TA)
      have p2 := p1.1
      have l1 := p1.2.ldS Try.underlying30 iArgs (by rw [List.length_set, hlen36]; rfl) (t := TA)
      rw [d]
      repeat (first | (with_reducible refine Wp.st ?_; simp only [wS]) | with_reducible refine Wp.drawS (by decide +kernel) ?_ | simp (disch := (first | (simp only [List.length_set, hl]; omega) | omega | rfl)) only [walkA, walkB, bne_self_eq_false, beq_self_eq_true, Option.map_some, Option.map_none, reduceIte, decide_true, decide_false, Int.reduceLT, Int.reduceLE, Int.reduceMul, Int.reduceAdd, Int.reduceSub, h0, h1])
      refine Wp.cond_false (by first | ((simp (disch := (first | (simp only [List.length_set, hl]; omega) | omega | rfl)) only [sL, aEval_tmp]); done) | ((simp (disch := (first | (simp only [List.length_set, hl]; omega) | omega | rfl)) only [sL, aEval_tmp]); rfl)) ?_
      repeat (first | (with_reducible refine Wp.st ?_; simp only [wS]) | with_reducible refine Wp.drawS (by decide +kernel) ?_ | simp (disch := (first | (simp only [List.length_set, hl]; omega) | omega | rfl)) only [walkA, walkB, bne_self_eq_false, beq_self_eq_true, Option.map_some, Option.map_none, reduceIte, decide_true, decide_false, Int.reduceLT, Int.reduceLE, Int.reduceMul, Int.reduceAdd, Int.reduceSub, h0, h1, l6, p2])
      rw [aRes_cell (v := .agg (r.cs.set 28 dv).toArray) Try.results10 (by (simp (disch := (first | (simp only [List.length_set, hl]; omega) | omega | rfl)) only [sL]); exact l1)]
      simp only [b1', b2', b3', and_self, if_true]
      refine ⟨dv, by (simp (disch := (first | (simp only [List.length_set, hl]; omega) | omega | rfl)) only [sL]), ⟨ob.1.same (Same.set1 _ _ _) (fun j hj x => ?_), fun j hj => Nat.le_trans (Nat.le_of_lt hn3) (ob.2 j hj)⟩, keepAll p1.2⟩
      have e : j = h.next := x
      have := ob.2 j hj
      omega
    · have d : (!r.bad && (r.s.2 == 0) && (bs.length - r.s.1 == 0)) = false := by
        cases hb : r.bad with
        | true => simp
        | false =>
          have : ¬ (r.s.2 = 0 ∧ r.s.1 = bs.length) := fun x => hok ⟨hb, x⟩
          by_cases hz : r.s.2 = 0
          · have : ¬ r.s.1 = bs.length := fun x => this ⟨hz, x⟩
            simp [hz]; omega
          · simp [hz]
      have p1 := st5.stS iArgs rfl rfl argsZ_one (t := TA)
      have p2 := p1.1
      have l1 := p1.2.ldS Try.underlying30 iArgs rfl (t := TA)
      rw [d]
      repeat (first | (with_reducible refine Wp.st ?_; simp only [wS]) | with_reducible refine Wp.drawS (by decide +kernel) ?_ | simp (disch := (first | (simp only [List.length_set, hl]; omega) | omega | rfl)) only [walkA, walkB, bne_self_eq_false, beq_self_eq_true, Option.map_some, Option.map_none, reduceIte, decide_true, decide_false, Int.reduceLT, Int.reduceLE, Int.reduceMul, Int.reduceAdd, Int.reduceSub, h0, h1])
      refine Wp.cond_true (by first | ((simp (disch := (first | (simp only [List.length_set, hl]; omega) | omega | rfl)) only [sL, aEval_tmp]); done) | ((simp (disch := (first | (simp only [List.length_set, hl]; omega) | omega | rfl)) only [sL, aEval_tmp]); rfl)) ?_
      repeat (first | (with_reducible refine Wp.st ?_; simp only [wS]) | with_reducible refine Wp.drawS (by decide +kernel) ?_ | simp (disch := (first | (simp only [List.length_set, hl]; omega) | omega | rfl)) only [walkA, walkB, bne_self_eq_false, beq_self_eq_true, Option.map_some, Option.map_none, reduceIte, decide_true, decide_false, Int.reduceLT, Int.reduceLE, Int.reduceMul, Int.reduceAdd, Int.reduceSub, h0, h1, bArgs, p2])
      rw [aRes_cell (v := .agg argsZ.toArray) Try.results10 (by (simp (disch := (first | (simp only [List.length_set, hl]; omega) | omega | rfl)) only [sL]); exact l1)]
      simp only [if_neg hok]
      refine ⟨.slice none 0 0, by rw [a28]; (simp (disch := (first | (simp only [List.length_set, hl]; omega) | omega | rfl)) only [sL]), OutB.nil, keepAll p1.2⟩
end Go.Proofs.Ytanknjpcgceccaa

namespace Go.Proofs.Ytanknjpcgceccaa
open Go Go.AM
set_option linter.unusedSimpArgs false
set_option maxRecDepth 100000
abbrev TIn : TypeId := 77
section
variable {k off : Nat}
end
structure XR (Z : Nat → Prop) (H0 h : Heap) (ki kr : Nat) (bv : Value) (bs : List Int) (s : Nat × Int) (bad : Bool) (L : List Blk) : Prop where
  st : St Z H0 h ((ki, [pt kr 0, .bool bad], TIn) :: (kr, [bv, .int .i64 s.1, .int .i64 s.2], TR) :: L)
  row : RowX H0 5 bv (bs.map (Value.int .u8))
  z : ∀ a n c, bv = .slice (some a) n c → n ≠ 0 → Z a.block
  len : bs.length ≤ 1000000000
  pos : s.1 ≤ bs.length
  byte : ∀ b ∈ bs, 0 ≤ b ∧ b < 256
section
variable {Z : Nat → Prop} {H0 h h' : Heap} {ki kr : Nat} {bv : Value} {bs : List Int} {s s' : Nat × Int} {bad : Bool} {L : List Blk} {kt o : Nat} {cs : List Value} {T : TypeId}
theorem XR.rd (c : XR Z H0 h ki kr bv bs s bad L) : RdOK h kr TR bv bs s :=
  ⟨c.st.tail.hd, c.st.stayedX c.row c.z, fun a n d e hn x => c.st.tail.off (kr, [bv, .int .i64 s.1, .int .i64 s.2], TR) (by simp) (x ▸ c.z a n d e hn), c.len, c.pos, c.byte⟩
theorem XR.read (c : XR Z H0 h ki kr bv bs s bad L) (r : RdOK h' kr TR bv bs s') (hs : Same h h' (onlyS kr)) : XR Z H0 h' ki kr bv bs s' bad L :=
  ⟨(c.st.swap.upd hs r.rd).swap, c.row, c.z, c.len, r.pos, c.byte⟩
theorem XR.lr (c : XR Z H0 h ki kr bv bs s bad L) : aLoad Try.prog h 73 (.pointer (some ⟨ki, 0, none⟩)) = some (pt kr 0) := by rw [c.st.ld Try.underlying73 (by simp) (by simp)]; rfl
theorem XR.lb (c : XR Z H0 h ki kr bv bs s bad L) : aLoad Try.prog h 4 (.pointer (some ⟨ki, 0 + 1, none⟩)) = some (.bool bad) := by rw [c.st.ld Try.underlying4 (by simp) (by simp)]; rfl
theorem XR.sb (c : XR Z H0 h ki kr bv bs s bad L) (b : Bool) : aStore Try.prog h 4 (pt ki (0 + 1)) (.bool b) = some (h.set ki (.cells [pt kr 0, .bool b] TIn false)) ∧ XR Z H0 (h.set ki (.cells [pt kr 0, .bool b] TIn false)) ki kr bv bs s b L := by
  have q := c.st.st (P := Try.prog) iB rfl (0 + 1) (by simp) (v := .bool b) rfl rfl
  exact ⟨q.1, ⟨q.2, c.row, c.z, c.len, c.pos, c.byte⟩⟩
theorem XR.ld {t : TypeId} {d : TypeDesc} (c : XR Z H0 h ki kr bv bs s bad ((kt, cs, T) :: L)) (hu : Try.prog.underlying t = some d) (h1 : ∀ fs, d ≠ .struct fs) (h2 : ∀ n e, d ≠ .array n e) (o : Nat) : aLoad Try.prog h t (pt kt o) = cs[o]? :=
  c.st.rot3'.ld hu h1 h2 o
theorem XR.put {t : TypeId} {i : TypeInfo} {v : Value} (c : XR Z H0 h ki kr bv bs s bad ((kt, cs, T) :: L)) (hi : Try.prog.info? t = some i) (hs : i.size = 1) (o : Nat) (ho : o < cs.length) (hv : v.cells = #[v]) (h1 : v.oneCell' = true) :
    aStore Try.prog h t (pt kt o) v = some (h.set kt (.cells (cs.set o v) T false)) ∧ XR Z H0 (h.set kt (.cells (cs.set o v) T false)) ki kr bv bs s bad ((kt, cs.set o v, T) :: L) := by
  have q := c.st.rot3'.st (P := Try.prog) hi hs o ho hv h1
  exact ⟨q.1, ⟨q.2.rot3, c.row, c.z, c.len, c.pos, c.byte⟩⟩
theorem XR.two {a b : Value} (c : XR Z H0 h ki kr bv bs s bad ((kt, cs, T) :: L)) (ho : o + 1 < cs.length) (h1 : a.oneCell' = true) (h2 : b.oneCell' = true) :
    aStore Try.prog h 26 (pt kt o) (.agg #[a, b]) = some (h.set kt (.cells ((cs.set o a).set (o + 1) b) T false)) ∧ XR Z H0 (h.set kt (.cells ((cs.set o a).set (o + 1) b) T false)) ki kr bv bs s bad ((kt, (cs.set o a).set (o + 1) b, T) :: L) := by
  have q := St_two c.st.rot3' ho h1 h2
  exact ⟨q.1, ⟨q.2.rot3, c.row, c.z, c.len, c.pos, c.byte⟩⟩
theorem XR.put' {t : TypeId} {i : TypeInfo} {v : Value} (c : XR Z H0 h ki kr bv bs s bad ((kt, cs, T) :: L)) (hi : Try.prog.info? t = some i) (hs : i.size = 1) (o : Nat) (ho : o < cs.length) (hv : v.cells = #[v]) (h1 : v.oneCell' = true) :
    ∃ h2, aStore Try.prog h t (pt kt o) v = some h2 ∧ XR Z H0 h2 ki kr bv bs s bad ((kt, cs.set o v, T) :: L) := ⟨_, c.put hi hs o ho hv h1⟩
theorem XR.two' {a b : Value} (c : XR Z H0 h ki kr bv bs s bad ((kt, cs, T) :: L)) (ho : o + 1 < cs.length) (h1 : a.oneCell' = true) (h2 : b.oneCell' = true) :
    ∃ h2, aStore Try.prog h 26 (pt kt o) (.agg #[a, b]) = some h2 ∧ XR Z H0 h2 ki kr bv bs s bad ((kt, (cs.set o a).set (o + 1) b, T) :: L) := ⟨_, c.two ho h1 h2⟩
theorem XR.alloc (c : XR Z H0 h ki kr bv bs s bad L) (cs : List Value) (T : TypeId) : XR Z H0 (h.push (.cells cs T false)) ki kr bv bs s bad ((h.next, cs, T) :: L) :=
  ⟨(c.st.push cs T).rot3, c.row, c.z, c.len, c.pos, c.byte⟩
theorem XR.drop {x : Blk} (c : XR Z H0 h ki kr bv bs s bad (x :: L)) : XR Z H0 h ki kr bv bs s bad L := ⟨c.st.drop3, c.row, c.z, c.len, c.pos, c.byte⟩
theorem XR.swap {x y : Blk} (c : XR Z H0 h ki kr bv bs s bad (x :: y :: L)) : XR Z H0 h ki kr bv bs s bad (y :: x :: L) := ⟨c.st.perm (((List.Perm.swap _ _ _).cons _).cons _), c.row, c.z, c.len, c.pos, c.byte⟩
theorem XR.nx (c : XR Z H0 h ki kr bv bs s bad L) : H0.next ≤ h.next := c.st.nx
end
section
variable {Z : Nat → Prop} {H0 h : Heap} {ki kr : Nat} {bv : Value} {bs : List Int} {s : Nat × Int} {bad : Bool} {L : List Blk}
end
end Go.Proofs.Ytanknjpcgceccaa

namespace Go.Proofs.Ytanknjpcgceccaa
open Go Go.AM
set_option linter.unusedSimpArgs false
set_option maxRecDepth 100000
def XRS (Z : Nat → Prop) (H0 h : Heap) (ki kr : Nat) (bv : Value) (bs : List Int) (x : RS) (kt : Nat) (T : TypeId) (L : List Blk) : Prop := XR Z H0 h ki kr bv bs x.s x.bad ((kt, x.cs, T) :: L)
theorem iSet : Try.prog.info? 28 = some Try.t28 := by kernel_rfl
section
variable {Z : Nat → Prop} {H0 h : Heap} {ki kr : Nat} {bv : Value} {bs : List Int} {L : List Blk} {x : RS} {kt o : Nat} {T : TypeId}
theorem XRS.bool (c : XRS Z H0 h ki kr bv bs x kt T L) (ho : o < x.cs.length) {h1 : Heap} (r : RdOK h1 kr TR bv bs (rBool bs x.s).2) (hs : Same h h1 (onlyS kr)) :
    ∃ h2, aStore Try.prog h1 4 (pt kt o) (.bool (rBool bs x.s).1) = some h2 ∧ XRS Z H0 h2 ki kr bv bs (pBool bs o x) kt T L ∧ aLoad Try.prog h2 4 (pt kt o) = some (.bool (rBool bs x.s).1) := by
  obtain ⟨h2, p1, c2⟩ := (XR.read c r hs).put' iB rfl o ho (v := .bool (rBool bs x.s).1) rfl rfl
  refine ⟨h2, p1, c2, ?_⟩
  rw [c2.ld Try.underlying4 (by simp) (by simp) o, List.getElem?_set_self ho]
theorem XRS.u64 (c : XRS Z H0 h ki kr bv bs x kt T L) (ho : o < x.cs.length) {h1 : Heap} (r : RdOK h1 kr TR bv bs (rNum bs 8 x.s).2) (hs : Same h h1 (onlyS kr)) :
    ∃ h2, aStore Try.prog h1 24 (pt kt o) (.int .u64 (rNum bs 8 x.s).1) = some h2 ∧ XRS Z H0 h2 ki kr bv bs (pU64 bs o x) kt T L := by
  obtain ⟨h2, p1, c2⟩ := (XR.read c r hs).put' iU64 rfl o ho (v := .int .u64 (rNum bs 8 x.s).1) rfl rfl
  exact ⟨h2, p1, c2⟩
theorem XRS.u32 {h1 : Heap} (ho : o < x.cs.length) (c1 : XR Z H0 h1 ki kr bv bs (rNum bs 4 x.s).2 x.bad ((kt, x.cs, T) :: L)) :
    ∃ h2, aStore Try.prog h1 23 (pt kt o) (.int .u32 (rNum bs 4 x.s).1) = some h2 ∧ XRS Z H0 h2 ki kr bv bs (pU32 bs o x) kt T L := by
  obtain ⟨h2, p1, c2⟩ := c1.put' iU32 rfl o ho (v := .int .u32 (rNum bs 4 x.s).1) rfl rfl
  exact ⟨h2, p1, c2⟩
theorem XRS.time {h1 : Heap} (ho : o + 1 < x.cs.length) (c1 : XR Z H0 h1 ki kr bv bs (rNum bs 4 (rNum bs 4 x.s).2).2 x.bad ((kt, x.cs, T) :: L)) :
    ∃ h2, aStore Try.prog h1 26 (pt kt o) (.agg #[.int .u32 (rNum bs 4 x.s).1, .int .u32 (rNum bs 4 (rNum bs 4 x.s).2).1]) = some h2 ∧ XRS Z H0 h2 ki kr bv bs (pTime bs o x) kt T L := by
  obtain ⟨h2, p1, c2⟩ := c1.two' ho (a := .int .u32 (rNum bs 4 x.s).1) (b := .int .u32 (rNum bs 4 (rNum bs 4 x.s).2).1) rfl rfl
  exact ⟨h2, p1, c2⟩
theorem XRS.text {m : Int} {h1 : Heap} (ho : o < x.cs.length) (c1 : XR Z H0 h1 ki kr bv bs (rBytes bs m x.s).2 x.bad ((kt, x.cs, T) :: L)) :
    ∃ h2, aStore Try.prog h1 9 (pt kt o) (.string (strS ((rBytes bs m x.s).1.map (Value.int .u8)))) = some h2 ∧ XRS Z H0 h2 ki kr bv bs (pText bs o m x) kt T L := by
  obtain ⟨h2, p1, c2⟩ := c1.put' iStr rfl o ho (v := .string (strS ((rBytes bs m x.s).1.map (Value.int .u8)))) rfl rfl
  exact ⟨h2, p1, c2⟩
end
section
variable {Z : Nat → Prop} {H0 h : Heap} {ki kr : Nat} {bv : Value} {bs : List Int} {L : List Blk} {s : Nat × Int} {bad : Bool}
end
end Go.Proofs.Ytanknjpcgceccaa

namespace Go.Proofs.Ytanknjpcgceccaa
open Go Go.AM
set_option linter.unusedSimpArgs false
set_option maxRecDepth 100000
def liftR (cs : List Value) (o : Nat) (y : RS) : RS := ⟨y.s, y.bad, setL cs o y.cs⟩
theorem setL_set {cs vs : List Value} {o i : Nat} {w : Value} (hi : i < vs.length) (hc : o + vs.length ≤ cs.length) : (setL cs o vs).set (o + i) w = setL cs o (vs.set i w) := by
  apply List.ext_getElem?
  intro j
  rw [List.getElem?_set, setL_get, setL_get, setL_length, List.length_set]
  by_cases h : o + i = j
  · subst h
    have e : o + i - o = i := by omega
    rw [if_pos rfl, if_pos (by omega), if_pos (by omega), e, List.getElem?_set_self hi]
  · rw [if_neg h]
    by_cases h2 : o ≤ j ∧ j < o + vs.length ∧ j < cs.length
    · rw [if_pos h2, if_pos h2, List.getElem?_set_ne (by omega)]
    · rw [if_neg h2, if_neg h2]
section
variable {bs : List Int} {cs : List Value} {o i : Nat} {y : RS}
theorem l_u32 (hc : o + 14 ≤ cs.length) (hy : y.cs.length = 14) (hi : i < 14) : pU32 bs (o + i) (liftR cs o y) = liftR cs o (pU32 bs i y) := by
  simp only [pU32, liftR]; rw [setL_set (by omega) (by omega)]
theorem l_u64 (hc : o + 14 ≤ cs.length) (hy : y.cs.length = 14) (hi : i < 14) : pU64 bs (o + i) (liftR cs o y) = liftR cs o (pU64 bs i y) := by
  simp only [pU64, liftR]; rw [setL_set (by omega) (by omega)]
theorem l_bool (hc : o + 14 ≤ cs.length) (hy : y.cs.length = 14) (hi : i < 14) : pBool bs (o + i) (liftR cs o y) = liftR cs o (pBool bs i y) := by
  simp only [pBool, liftR]; rw [setL_set (by omega) (by omega)]
theorem l_num {a b : Int} (hc : o + 14 ≤ cs.length) (hy : y.cs.length = 14) (hi : i < 14) : pNum bs (o + i) a b (liftR cs o y) = liftR cs o (pNum bs i a b y) := by
  simp only [pNum, liftR]; rw [setL_set (by omega) (by omega)]
  rfl
theorem l_time (hc : o + 14 ≤ cs.length) (hy : y.cs.length = 14) (hi : i + 1 < 14) : pTime bs (o + i) (liftR cs o y) = liftR cs o (pTime bs i y) := by
  unfold pTime
  rw [l_u32 hc hy (by omega), Nat.add_assoc, l_u32 hc (by simp [pU32, hy]) (by omega)]
theorem l_notime (hc : o + 14 ≤ cs.length) (hy : y.cs.length = 14) (hi : i + 1 < 14) : pNoTime (o + i) (liftR cs o y) = liftR cs o (pNoTime i y) := by
  simp only [pNoTime, liftR]
  rw [setL_set (by omega) (by omega), Nat.add_assoc, setL_set (by rw [List.length_set]; omega) (by rw [List.length_set]; omega)]
theorem l_how {t : Nat} (hc : o + 14 ≤ cs.length) (hy : y.cs.length = 14) (hi : i < 14) (ht : t + 1 < 14) : pHow bs (o + i) (o + t) (liftR cs o y) = liftR cs o (pHow bs i t y) := by
  unfold pHow
  have e : (liftR cs o y).s = y.s := rfl
  rw [e, l_num hc hy hi, l_time hc (by rw [pNum_len]; exact hy) ht, l_notime hc (by rw [pNum_len]; exact hy) ht]
  split <;> rfl
theorem l_if {f g : RS → RS} (hf : ∀ z : RS, z.cs.length = 14 → f (liftR cs o z) = liftR cs o (g z)) (hc : o + 14 ≤ cs.length) (hy : y.cs.length = 14) (hi : i < 14) : pIf bs (o + i) f (liftR cs o y) = liftR cs o (pIf bs i g y) := by
  unfold pIf
  have e : (liftR cs o y).s = y.s := rfl
  rw [e, l_bool hc hy hi, hf _ (by rw [pBool_len]; exact hy)]
  split <;> rfl
theorem pSet_lift (x : RS) (hc : o + 14 ≤ x.cs.length) (hz : setL x.cs o sattrZ = x.cs) : pSet bs o x = liftR x.cs o (pSet bs 0 ⟨x.s, x.bad, sattrZ⟩) := by
  have hx : x = liftR x.cs o ⟨x.s, x.bad, sattrZ⟩ := by unfold liftR; rw [hz]
  have h0 : (⟨x.s, x.bad, sattrZ⟩ : RS).cs.length = 14 := rfl
  generalize (⟨x.s, x.bad, sattrZ⟩ : RS) = y at hx h0 ⊢
  generalize x.cs = cs at hx hc ⊢
  rw [hx]
  unfold pSet
  simp only [Nat.zero_add]
  have z0 : o = o + 0 := rfl
  have h1 : (pIf bs 0 (pNum bs 4 0 4294967295) y).cs.length = 14 := by rw [pIf_len (fun _ => pNum_len)]; exact h0
  have e1 : pIf bs o (pNum bs (o + 4) 0 4294967295) (liftR cs o y) = liftR cs o (pIf bs 0 (pNum bs 4 0 4294967295) y) := l_if (i := 0) (fun z hz => l_num hc hz (by decide)) hc h0 (by decide)
  rw [e1]
  have h2 : (pIf bs 1 (pU32 bs 5) (pIf bs 0 (pNum bs 4 0 4294967295) y)).cs.length = 14 := by rw [pIf_len (fun _ => pU32_len)]; exact h1
  generalize pIf bs 0 (pNum bs 4 0 4294967295) y = y1 at h1 h2 ⊢
  rw [l_if (g := pU32 bs 5) (fun z hz => l_u32 hc hz (by decide)) hc h1 (by decide)]
  have h3 : (pIf bs 2 (pU32 bs 6) (pIf bs 1 (pU32 bs 5) y1)).cs.length = 14 := by rw [pIf_len (fun _ => pU32_len)]; exact h2
  generalize pIf bs 1 (pU32 bs 5) y1 = y2 at h2 h3 ⊢
  rw [l_if (g := pU32 bs 6) (fun z hz => l_u32 hc hz (by decide)) hc h2 (by decide)]
  have h4 : (pIf bs 3 (pU64 bs 7) (pIf bs 2 (pU32 bs 6) y2)).cs.length = 14 := by rw [pIf_len (fun _ => pU64_len)]; exact h3
  generalize pIf bs 2 (pU32 bs 6) y2 = y3 at h3 h4 ⊢
  rw [l_if (g := pU64 bs 7) (fun z hz => l_u64 hc hz (by decide)) hc h3 (by decide)]
  have h5 : (pHow bs 8 10 (pIf bs 3 (pU64 bs 7) y3)).cs.length = 14 := by rw [pHow_len]; exact h4
  generalize pIf bs 3 (pU64 bs 7) y3 = y4 at h4 h5 ⊢
  rw [l_how hc h4 (by decide) (by decide), l_how hc h5 (by decide) (by decide)]
end
section
variable {P : Program} {Z : Nat → Prop} {H0 h : Heap} {L : List Blk} {k o : Nat} {cs vs : List Value} {T t : TypeId} {i : TypeInfo}
theorem _root_.Go.AM.St.stN (s : St Z H0 h ((k, cs, T) :: L)) (hi : P.info? t = some i) (hs : i.size = vs.length) (ho : o + vs.length ≤ cs.length) (h1 : One vs) :
    aStore P h t (pt k o) (.agg vs.toArray) = some (h.set k (.cells (setL cs o vs) T false)) ∧ St Z H0 (h.set k (.cells (setL cs o vs) T false)) ((k, setL cs o vs, T) :: L) := by
  have e1 : (Value.agg vs.toArray).cells = vs.toArray := rfl
  have e2 : Nat.ble (o + vs.length) cs.length = true := ble_iff.2 (by omega)
  refine ⟨?_, s.upd (Same.set1 _ _ _) (Heap.get_set_eq s.hd)⟩
  have h1' : vs.all Value.oneCell' = true := h1
  simp [aStore, hi, e1, hs, wrN, s.hd, h1', e2]
end
section
variable {Z : Nat → Prop} {H0 h : Heap} {ki kr : Nat} {bv : Value} {bs : List Int} {L : List Blk} {x : RS} {kt o : Nat} {T : TypeId}
theorem XRS.set {h1 : Heap} (ho : o + 14 ≤ x.cs.length) (hz : setL x.cs o sattrZ = x.cs) (c1 : XR Z H0 h1 ki kr bv bs (pSet bs 0 ⟨x.s, x.bad, sattrZ⟩).s (pSet bs 0 ⟨x.s, x.bad, sattrZ⟩).bad ((kt, x.cs, T) :: L)) :
    ∃ h2, aStore Try.prog h1 28 (pt kt o) (.agg (pSet bs 0 ⟨x.s, x.bad, sattrZ⟩).cs.toArray) = some h2 ∧ XRS Z H0 h2 ki kr bv bs (pSet bs o x) kt T L := by
  have hl : (pSet bs 0 ⟨x.s, x.bad, sattrZ⟩).cs.length = 14 := by rw [pSet_len]; rfl
  have hone : One (pSet bs 0 ⟨x.s, x.bad, sattrZ⟩).cs := pSet_one (by unfold One; rfl)
  have e := pSet_lift (bs := bs) x ho hz
  rw [e]
  generalize pSet bs 0 ⟨x.s, x.bad, sattrZ⟩ = y at c1 hl hone ⊢
  have q := c1.st.rot3'.stN (P := Try.prog) iSet (by rw [hl]; rfl) (by rw [hl]; exact ho) hone
  exact ⟨_, q.1, ⟨q.2.rot3, c1.row, c1.z, c1.len, c1.pos, c1.byte⟩⟩
theorem XRS.row {dv : Value} {most : Int} {h1 : Heap} (c : XRS Z H0 h ki kr bv bs x kt T L) (ho : o < x.cs.length) (ob : OutB h h1 dv (rBytes bs most x.s).1) (r : RdOK h1 kr TR bv bs (rBytes bs most x.s).2) (hs : Same h h1 (onlyS kr)) :
    ∃ h2, aStore Try.prog h1 22 (pt kt o) dv = some h2 ∧ XR Z H0 h2 ki kr bv bs (rBytes bs most x.s).2 x.bad ((kt, x.cs.set o dv, T) :: L) ∧ OutB h h2 dv (rBytes bs most x.s).1 ∧ h2 = h1.set kt (.cells (x.cs.set o dv) T false) := by
  have c1 := XR.read c r hs
  have hkl : kt < h.next := Heap.get_lt (XR.st c).rot3'.hd
  obtain ⟨a, n, d, e⟩ := buf_slice ob.1
  have p := c1.put iRow rfl o ho (v := dv) (by rw [e]; rfl) (by rw [e]; rfl)
  refine ⟨_, p.1, p.2, ⟨ob.1.same (Same.set1 h1 kt _) (fun j hj x => ?_), ob.2⟩, rfl⟩
  have e : j = kt := x
  have := ob.2 j hj
  omega
end
end Go.Proofs.Ytanknjpcgceccaa

namespace Go.Proofs.Ytanknjpcgceccaa
open Go Go.AM
set_option linter.unusedSimpArgs false
set_option maxRecDepth 100000
attribute [local irreducible] WOps WV WH WSt WNil WPick WGd
section
variable {Z : Nat → Prop} {H0 h : Heap} {ki kr : Nat} {bv : Value} {bs : List Int} {x : RS} {kt : Nat} {T : TypeId} {L : List Blk}
end
end Go.Proofs.Ytanknjpcgceccaa

namespace Go.Proofs.Ytanknjpcgceccaa
open Go Go.AM
set_option linter.unusedSimpArgs false
set_option maxRecDepth 100000
attribute [local irreducible] WOps WV WH WSt WNil WPick WGd
def hasName (p : Int) : Bool := (p == 3) || (decide (8 ≤ p) && decide (p ≤ 14))
def XQ (Z : Nat → Prop) (H0 h' : Heap) (ki kr : Nat) (bv : Value) (bs : List Int) (x : RS) (kt : Nat) (T : TypeId) (L : List Blk) (ds : List Int) : Prop :=
  ∃ dv, XR Z H0 h' ki kr bv bs x.s x.bad ((kt, x.cs.set 28 dv, T) :: L) ∧ OutB H0 h' dv ds
theorem XQ.of {Z : Nat → Prop} {H0 h' : Heap} {ki kr : Nat} {bv : Value} {bs : List Int} {x : RS} {kt : Nat} {T : TypeId} {L : List Blk} (c : XRS Z H0 h' ki kr bv bs x kt T L) (hd : x.cs[28]? = some (.slice none 0 0)) : XQ Z H0 h' ki kr bv bs x kt T L [] := by
  refine ⟨.slice none 0 0, ?_, OutB.nil⟩
  have e : x.cs.set 28 (.slice none 0 0) = x.cs := by
    obtain ⟨hl, he⟩ := List.getElem?_eq_some_iff.1 hd
    rw [← he]; exact List.set_getElem_self hl
  rw [e]; exact c
end Go.Proofs.Ytanknjpcgceccaa
