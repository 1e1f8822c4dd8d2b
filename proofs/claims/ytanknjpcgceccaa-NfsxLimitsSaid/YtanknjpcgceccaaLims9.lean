/- What is written: a writer's block and its row, beside what else is owned. -/
import Derived.Test.YtanknjpcgceccaaLims5
import Derived.Test.YtanknjpcgceccaaLims7
import Derived.Test.YtanknjpcgceccaaLims8
import Derived.Test.YtanknjpcgceccaaRows

namespace Go.Proofs.Ytanknjpcgceccaa
open Go Go.AM
set_option linter.unusedSimpArgs false
set_option maxRecDepth 100000
attribute [local irreducible] WOps WV WH WSt WNil WPick WGd
structure WB (Z : Nat → Prop) (H0 h : Heap) (kw : Nat) (TW : TypeId) (wv : Value) (bs : List Value) (L : List Blk) : Prop where
  st : St Z H0 h ((kw, [wv], TW) :: L)
  buf : Buf h 5 wv bs
  off : ∀ j, bufBlk wv j → j ≠ kw ∧ ¬ Z j ∧ ∀ x ∈ L, x.1 ≠ j
  one : bs.all Value.oneCell' = true
section
variable {Z : Nat → Prop} {H0 h h' : Heap} {kw k o : Nat} {TW T : TypeId} {wv v' : Value} {bs bs' cs cs' : List Value} {L L' : List Blk} {x : Blk}
theorem WB.wr (c : WB Z H0 h kw TW wv bs L) : WR h kw TW wv bs := ⟨c.st.hd, c.buf, fun hh => (c.off kw hh).1 rfl⟩
theorem WB.lt (c : WB Z H0 h kw TW wv bs L) : ∀ j, bufBlk wv j → j < h.next := by
  rintro j ⟨a, n, d, e⟩
  exact c.buf.blk e
theorem WB.write (c : WB Z H0 h kw TW wv bs L) (hw : WR h' kw TW v' bs') (hs : Same h h' (own wv kw)) (hf : ∀ j, own v' kw j → own wv kw j ∨ h.next ≤ j) (h1 : bs'.all Value.oneCell' = true) : WB Z H0 h' kw TW v' bs' L := by
  have hL : ∀ x ∈ L, ¬ own wv kw x.1 := fun x hx hh => hh.elim (fun e => c.st.ne x hx e) (fun e => (c.off _ e).2.2 x hx rfl)
  have hZ : ∀ j, Z j → ¬ own wv kw j := fun j hj hh => hh.elim (fun e => c.st.off (kw, [wv], TW) (by simp) (by rw [← e]; exact hj)) (fun e => (c.off _ e).2.1 hj)
  have s1 : St Z H0 h' L := c.st.tail.keep hs hL hZ
  refine ⟨⟨s1.nx, s1.stay, fun x hx => ?_, c.st.nodup, fun x hx => ?_, s1.low⟩, hw.2.1, fun j hj => ?_, h1⟩
  · rcases List.mem_cons.1 hx with rfl | hx
    · exact hw.1
    · exact s1.get x hx
  · rcases List.mem_cons.1 hx with rfl | hx
    · exact c.st.off (kw, [wv], TW) (by simp)
    · exact s1.off x hx
  · rcases hf j (.inr hj) with hh | hn
    · rcases hh with rfl | hb
      · exact absurd hj hw.2.2
      · exact c.off j hb
    · refine ⟨fun e => ?_, fun z => ?_, fun x hx e => ?_⟩
      · have : kw < h.next := Heap.get_lt c.st.hd
        omega
      · have := c.st.low j z
        have := c.st.nx
        omega
      · have := c.st.lt (List.mem_cons_of_mem _ hx)
        omega
theorem WB.perm (c : WB Z H0 h kw TW wv bs L) (p : L.Perm L') : WB Z H0 h kw TW wv bs L' :=
  ⟨c.st.perm (p.cons _), c.buf, fun j hj => ⟨(c.off j hj).1, (c.off j hj).2.1, fun x hx => (c.off j hj).2.2 x (p.mem_iff.2 hx)⟩, c.one⟩
theorem WB.drop (c : WB Z H0 h kw TW wv bs (x :: L)) : WB Z H0 h kw TW wv bs L :=
  ⟨c.st.swap.tail, c.buf, fun j hj => ⟨(c.off j hj).1, (c.off j hj).2.1, fun y hy => (c.off j hj).2.2 y (List.mem_cons_of_mem _ hy)⟩, c.one⟩
theorem WB.upd (c : WB Z H0 h kw TW wv bs ((k, cs, T) :: L)) (hs : Same h h' (onlyS k)) (hg : h'.get k = some (.cells cs' T false)) : WB Z H0 h' kw TW wv bs ((k, cs', T) :: L) :=
  ⟨(c.st.swap.upd hs hg).swap, c.buf.same hs (fun j hj e => (c.off j hj).2.2 (k, cs, T) (by simp) (by have e : j = k := e; exact e.symm)), fun j hj => ⟨(c.off j hj).1, (c.off j hj).2.1, fun y hy => by
    rcases List.mem_cons.1 hy with rfl | hy
    · exact (c.off j hj).2.2 (k, cs, T) (by simp)
    · exact (c.off j hj).2.2 y (List.mem_cons_of_mem _ hy)⟩, c.one⟩
theorem WB.alloc (c : WB Z H0 h kw TW wv bs L) (cs : List Value) (T : TypeId) : WB Z H0 (h.push (.cells cs T false)) kw TW wv bs ((h.next, cs, T) :: L) :=
  ⟨(c.st.push cs T).swap, c.buf.same (Same.push _ _ noS) (fun _ _ x => x), fun j hj => ⟨(c.off j hj).1, (c.off j hj).2.1, fun y hy => by
    rcases List.mem_cons.1 hy with rfl | hy
    · have := c.lt j hj
      simp only; omega
    · exact (c.off j hj).2.2 y hy⟩, c.one⟩
theorem WB.ld {t : TypeId} {d : TypeDesc} (c : WB Z H0 h kw TW wv bs ((k, cs, T) :: L)) (hu : Try.prog.underlying t = some d) (h1 : ∀ fs, d ≠ .struct fs) (h2 : ∀ n e, d ≠ .array n e) (o : Nat) : aLoad Try.prog h t (pt k o) = cs[o]? :=
  c.st.swap.ld hu h1 h2 o
theorem WB.put {t : TypeId} {i : TypeInfo} {v : Value} (c : WB Z H0 h kw TW wv bs ((k, cs, T) :: L)) (hi : Try.prog.info? t = some i) (hs : i.size = 1) (o : Nat) (ho : o < cs.length) (hv : v.cells = #[v]) (h1 : v.oneCell' = true) :
    ∃ h2, aStore Try.prog h t (pt k o) v = some h2 ∧ WB Z H0 h2 kw TW wv bs ((k, cs.set o v, T) :: L) := by
  have q := c.st.swap.st (P := Try.prog) hi hs o ho hv h1
  exact ⟨_, q.1, c.upd (Same.set1 h k _) (Heap.get_set_eq c.st.swap.hd)⟩
theorem WB.via (c : WB Z H0 h kw TW wv bs L) : St (fun j => Z j ∨ bufBlk wv j) h h ((kw, [wv], TW) :: L) :=
  ⟨Nat.le_refl _, fun _ _ e _ => e, c.st.get, c.st.nodup, fun x hx hh => hh.elim (c.st.off x hx) (fun hb => by
    rcases List.mem_cons.1 hx with rfl | hx
    · exact (c.off _ hb).1 rfl
    · exact (c.off _ hb).2.2 x hx rfl), fun j hh => hh.elim (fun z => Nat.lt_of_lt_of_le (c.st.low j z) c.st.nx) (c.lt j)⟩
theorem WB.back (c : WB Z H0 h kw TW wv bs L) (s : St (fun j => Z j ∨ bufBlk wv j) h h' ((kw, [wv], TW) :: L')) : WB Z H0 h' kw TW wv bs L' :=
  ⟨⟨Nat.le_trans c.st.nx s.nx, fun j e he z => s.stay j e (c.st.stay j e he z) (.inl z), s.get, s.nodup, fun x hx z => s.off x hx (.inl z), c.st.low⟩,
   c.buf.same (S := fun j => ¬ (Z j ∨ bufBlk wv j)) ⟨s.nx, fun j e he hn => s.stay j e he (Classical.not_not.1 hn)⟩ (fun j hj hn => hn (.inr hj)),
   fun j hj => ⟨(c.off j hj).1, (c.off j hj).2.1, fun x hx e => s.off x (List.mem_cons_of_mem _ hx) (.inr (e ▸ hj))⟩, c.one⟩
end
abbrev TWp : TypeId := 134
abbrev CW (Z : Nat → Prop) (H0 h : Heap) (kc kw : Nat) (wv : Value) (bs : List Value) (bad : Bool) (L : List Blk) : Prop := WB Z H0 h kw TWp wv bs ((kc, [.pointer none, pt kw 0, .bool bad], TC) :: L)
section
variable {Z : Nat → Prop} {H0 h h' : Heap} {kc kw kt o : Nat} {wv v' : Value} {bs bs' cs : List Value} {L : List Blk} {x y : Blk} {bad : Bool} {T : TypeId}
theorem CW.lw (c : CW Z H0 h kc kw wv bs bad L) : aLoad Try.prog h 67 (.pointer (some ⟨kc, 0 + 1, none⟩)) = some (pt kw 0) := by rw [WB.ld c Try.underlying67 (by simp) (by simp)]; rfl
theorem CW.lb (c : CW Z H0 h kc kw wv bs bad L) : aLoad Try.prog h 4 (.pointer (some ⟨kc, 0 + 2, none⟩)) = some (.bool bad) := by rw [WB.ld c Try.underlying4 (by simp) (by simp)]; rfl
theorem CW.ld {t : TypeId} {d : TypeDesc} (c : CW Z H0 h kc kw wv bs bad ((kt, cs, T) :: L)) (hu : Try.prog.underlying t = some d) (h1 : ∀ fs, d ≠ .struct fs) (h2 : ∀ n e, d ≠ .array n e) (o : Nat) : aLoad Try.prog h t (pt kt o) = cs[o]? :=
  (WB.perm c (.swap _ _ _)).ld hu h1 h2 o
theorem CW.put {t : TypeId} {i : TypeInfo} {v : Value} (c : CW Z H0 h kc kw wv bs bad ((kt, cs, T) :: L)) (hi : Try.prog.info? t = some i) (hs : i.size = 1) (o : Nat) (ho : o < cs.length) (hv : v.cells = #[v]) (h1 : v.oneCell' = true) :
    ∃ h2, aStore Try.prog h t (pt kt o) v = some h2 ∧ CW Z H0 h2 kc kw wv bs bad ((kt, cs.set o v, T) :: L) := by
  obtain ⟨h2, p, q⟩ := (WB.perm c (.swap _ _ _)).put hi hs o ho hv h1
  exact ⟨h2, p, q.perm (.swap _ _ _)⟩
theorem CW.alloc (c : CW Z H0 h kc kw wv bs bad L) (cs : List Value) (T : TypeId) : CW Z H0 (h.push (.cells cs T false)) kc kw wv bs bad ((h.next, cs, T) :: L) := (WB.alloc c cs T).perm (.swap _ _ _)
theorem CW.drop (c : CW Z H0 h kc kw wv bs bad (x :: L)) : CW Z H0 h kc kw wv bs bad L := (WB.perm c (.swap _ _ _)).drop
theorem CW.swap (c : CW Z H0 h kc kw wv bs bad (x :: y :: L)) : CW Z H0 h kc kw wv bs bad (y :: x :: L) := WB.perm c ((List.Perm.swap _ _ _).cons _)
theorem mustW_am (is : Bool) (c : CW Z H0 h kc kw wv bs bad L) : Cl Try.prog 70 [pt kc 0, .bool is] h fun v h' => v = .tuple #[] ∧ CW Z H0 h' kc kw wv bs (bad || !is) L :=
  (must_am is bad _ _ _ h h kc _ (WB.via c).swap).mono fun v h' q => ⟨q.1, WB.back c q.2.swap⟩
theorem CW.done (c : CW Z H0 h kc kw wv bs bad L) {r : Value} (q : WQ h kw TWp wv bs' r h') (h1 : bs'.all Value.oneCell' = true) : r = .tuple #[] ∧ ∃ v', CW Z H0 h' kc kw v' bs' bad L := by
  obtain ⟨hr, v', hw, hs, hf⟩ := q
  exact ⟨hr, v', WB.write c hw hs hf h1⟩
end
end Go.Proofs.Ytanknjpcgceccaa

namespace Go.Proofs.Ytanknjpcgceccaa
open Go Go.AM
set_option linter.unusedSimpArgs false
set_option maxRecDepth 100000
attribute [local irreducible] WOps WV WH WSt WNil WPick WGd
theorem WD1_buildSlice {P : Program} {ops : Array Oper} {Q : List Rec → List Value → Heap → Prop} {l : List Oper} {acc : List Rec} {env : List Value} {h : Heap} {d : Option Tmp} {ty : TypeId} {ps : String} {af : Array Edge} {g : Option (Nat × Bool)} {t : TypeId} {n : Nat} {p : Array (Nat × Operand)} :
    WD1 P ops Q ⟨d, .buildSlice t n p, ty, ps, af, g⟩ l acc env h = DH P ops Q l acc ⟨d, .buildSlice t n p, ty, ps, af, g⟩ env h (aBuildSlice P h t n (p.toList.map fun q => (q.1, aEval env q.2))) := (WD1_op rfl)
section
variable {h : Heap}
theorem bsB {b : Bool} : aBuildSlice Try.prog h 161 1 [(0, .bool b)] = some (.slice (some ⟨h.next, 0, none⟩) 1 1, h.push (.cells [.bool b] 4 false)) := by kernel_rfl
theorem bs32 {n : Int} : aBuildSlice Try.prog h 148 1 [(0, .int .u32 n)] = some (.slice (some ⟨h.next, 0, none⟩) 1 1, h.push (.cells [.int .u32 n] 23 false)) := by kernel_rfl
theorem bs64 {n : Int} : aBuildSlice Try.prog h 164 1 [(0, .int .u64 n)] = some (.slice (some ⟨h.next, 0, none⟩) 1 1, h.push (.cells [.int .u64 n] 24 false)) := by kernel_rfl
end
theorem veqB_ptr (a : Option Addr) : veqB 6 (.pointer a) (.pointer a) = true := by simp [veqB]
theorem WB.offRow {Z : Nat → Prop} {H0 h : Heap} {kw kl : Nat} {TW T : TypeId} {wv : Value} {bs vs : List Value} {L : List Blk} {n : Nat} (c : WB Z H0 h kw TW wv bs L) (hx : (kl, vs, T) ∈ L) (hn : n = vs.length) : Off h wv kw (.slice (some ⟨kl, 0, none⟩) n n) vs := by
  subst hn
  have hg := c.st.get (kl, vs, T) (List.mem_cons_of_mem _ hx)
  refine ⟨by have := Row.whole (cap := vs.length) hg; simpa using this, fun a m d e _ => ?_⟩
  injection e with e1
  injection e1 with e1
  subst e1
  exact ⟨fun hh => hh.elim (fun e => c.st.ne _ hx e) (fun hb => (c.off _ hb).2.2 _ hx rfl), Heap.get_lt hg⟩
theorem flatLen (n : Nat) (hn : n ≤ 8) : ∀ ps : List (Nat × Int), (ps.flatMap (fun p => beTo p.2 n)).length ≤ 8 * ps.length
  | [] => by simp
  | p :: ps => by
    have := flatLen n hn ps
    rw [List.flatMap_cons, List.length_append, List.length_cons, beTo_length]
    omega
section
variable (Z : Nat → Prop) (H0 h : Heap) (kc kw : Nat) (wv : Value) (bs : List Value) (bad : Bool) (L : List Blk) (kt : Nat) (cs : List Value) (T : TypeId)
set_option maxHeartbeats 1000000 in
theorem truthW_am (o : Nat) (b : Bool) (c : CW Z H0 h kc kw wv bs bad ((kt, cs, T) :: L)) (hb : cs[o]? = some (.bool b)) (hlen : bs.length ≤ 700000000) :
    Cl Try.prog 53 [pt kc 0, pt kt o] h fun v h' => v = .bool b ∧ ∃ v', CW Z H0 h' kc kw v' (bs ++ beTo (if b = true then 1 else 0) 4) bad ((kt, cs, T) :: L) := by
  refine Cl.enter Try.func53 rfl 29 Try.ntmps53 (by simp) ?_
  intro env hl ha
  have h0 : sl env 0 = pt kc 0 := ha 0 (by simp)
  have h1 : sl env 1 = pt kt o := ha 1 (by simp)
  clear ha
  have lw := c.lw
  have ld := CW.ld c Try.underlying4 (by simp) (by simp) o
  rw [hb] at ld
  repeat (first | (with_reducible refine Wp.st ?_; simp only [wS]) | with_reducible refine Wp.drawS (by decide +kernel) ?_ | simp (disch := (first | (simp only [List.length_set, hl]; omega) | omega | rfl)) only [walkA, walkB, bne_self_eq_false, beq_self_eq_true, Option.map_some, Option.map_none, reduceIte, decide_true, decide_false, Int.reduceLT, Int.reduceLE, Int.reduceMul, Int.reduceAdd, Int.reduceSub, h0, h1, faC1, lw, pw_np])
  refine Wp.cond_true (by first | ((simp (disch := (first | (simp only [List.length_set, hl]; omega) | omega | rfl)) only [sL, aEval_tmp]); done) | ((simp (disch := (first | (simp only [List.length_set, hl]; omega) | omega | rfl)) only [sL, aEval_tmp]); rfl)) ?_
  refine Wp.drawU [(3, 7)] (by kernel_rfl) ?_
  repeat (simp (disch := (first | (simp only [List.length_set, hl]; omega) | omega | rfl)) only [WD_none, WD_guard, WDG_tt, WDG_ff, WDG_tf, WDG_ft, gval_some, nthD_zero, nthD_succ, WD1_move, WD1_assign, WD1_call, WD1_load, WD1_convert, WD1_fieldAddr, WD1_field, WD1_indexAddr, WD1_extract, WD1_binOp, WD1_unOp, WD1_builtin, WD1_slice2, WD1_slice1, WD1_nilCheck, WD1_pick, DPick_bool, DNil_ptr, DH_some, WDraw_nil, withH_val, aEval_tmp, aEval_const, aPut_some, aPut_none, List.length_set, List.map_cons, List.map_nil, sl_eq, sl_ne, cond_true, cond_false, bin_add, bin_sub, bin_eql, bin_neq, bin_lss, bin_leq, bin_gtr, bin_geq, bne_self_eq_false, beq_self_eq_true, un_not, Bool.not_true, Bool.not_false, wrap_i64, h0, h1, faC1, lw, ld, WD1_buildSlice, bsB])
  have c1 := CW.alloc c [.bool b] 4
  have of1 : Off _ wv kw (.slice (some ⟨h.next, 0, none⟩) 1 1) ([b].map Value.bool) := WB.offRow (T := 4) c1 (by simp) rfl
  have lw1 := c1.lw
  have ne : aLoad Try.prog h 4 (pt kt o) = some (.bool b) := ld
  refine (bool_am _ [b] kw wv bs _ of1 c1.wr c.one (by simp; omega)).mono ?_
  intro v hd q
  obtain ⟨hr, v', c2⟩ := CW.done c1 q (all_append' c.one (flat_all' _ _ (fun _ _ => beTo_all _ _)))
  rw [hr]
  have ld2 := CW.ld (CW.drop c2) Try.underlying4 (by simp) (by simp) o
  rw [hb] at ld2
  repeat (simp (disch := (first | (simp only [List.length_set, hl]; omega) | omega | rfl)) only [WD_none, WD_guard, WDG_tt, WDG_ff, WDG_tf, WDG_ft, gval_some, nthD_zero, nthD_succ, WD1_move, WD1_assign, WD1_call, WD1_load, WD1_convert, WD1_fieldAddr, WD1_field, WD1_indexAddr, WD1_extract, WD1_binOp, WD1_unOp, WD1_builtin, WD1_slice2, WD1_slice1, WD1_nilCheck, WD1_pick, DPick_bool, DNil_ptr, DH_some, WDraw_nil, withH_val, aEval_tmp, aEval_const, aPut_some, aPut_none, List.length_set, List.map_cons, List.map_nil, sl_eq, sl_ne, cond_true, cond_false, bin_add, bin_sub, bin_eql, bin_neq, bin_lss, bin_leq, bin_gtr, bin_geq, bne_self_eq_false, beq_self_eq_true, un_not, Bool.not_true, Bool.not_false, wrap_i64, h0, h1])
  refine ⟨?_, ?_⟩
  · simp only [okPair, List.reverse_cons, List.reverse_nil, List.nil_append, List.cons_append, List.getElem?_cons_zero, List.getElem?_cons_succ, List.mem_cons, List.not_mem_nil, or_false, forall_eq_or_imp, forall_eq, Nat.blt_eq, blt_true, blt_false, cond_true, cond_false, Bool.true_eq_false, Bool.false_eq_true, false_or]
    refine sameAt_load ?_ (veqB_ptr _)
    (simp (disch := (first | (simp only [List.length_set, hl]; omega) | omega | rfl)) only [sL, aEval_tmp])
    exact lw1
  repeat (first | (with_reducible refine Wp.st ?_; simp only [wS]) | with_reducible refine Wp.drawS (by decide +kernel) ?_ | simp (disch := (first | (simp only [List.length_set, hl]; omega) | omega | rfl)) only [walkA, walkB, bne_self_eq_false, beq_self_eq_true, Option.map_some, Option.map_none, reduceIte, decide_true, decide_false, Int.reduceLT, Int.reduceLE, Int.reduceMul, Int.reduceAdd, Int.reduceSub, h0, h1, ld2])
  simp (disch := (first | (simp only [List.length_set, hl]; omega) | omega | rfl)) only [aRes_one Try.results53, sL]
  exact ⟨trivial, v', by simpa using CW.drop c2⟩
set_option maxHeartbeats 1000000 in
theorem u32W_am (kl : Nat) (Tp : TypeId) (ps : List (Nat × Int)) (c : CW Z H0 h kc kw wv bs bad ((kt, cs, T) :: (kl, ps.map (fun p => pt kt p.1), Tp) :: L)) (hp : ∀ p ∈ ps, cs[p.1]? = some (.int .u32 p.2) ∧ 0 ≤ p.2 ∧ p.2 < 4294967296) (hn : ps.length ≤ 1000) (hlen : bs.length ≤ 700000000) :
    Cl Try.prog 55 [pt kc 0, .slice (some ⟨kl, 0, none⟩) ps.length ps.length] h fun v h' => v = .tuple #[] ∧ ∃ v', CW Z H0 h' kc kw v' (bs ++ ps.flatMap (fun p => beTo p.2 4)) bad ((kt, cs, T) :: L) := by
  refine Cl.enter Try.func55 rfl 34 Try.ntmps55 (by simp) ?_
  intro env hl ha
  have h0 : sl env 0 = pt kc 0 := ha 0 (by simp)
  have h1 : sl env 1 = .slice (some ⟨kl, 0, none⟩) ps.length ps.length := ha 1 (by simp)
  clear ha
  have row : ∀ {h : Heap} {wv : Value} {bs : List Value}, CW Z H0 h kc kw wv bs bad ((kt, cs, T) :: (kl, ps.map (fun p => pt kt p.1), Tp) :: L) → Row h (.slice (some ⟨kl, 0, none⟩) ps.length ps.length) (ps.map (fun p => pt kt p.1)) := fun c => (WB.offRow (T := Tp) c (by simp) (by simp)).1
  have hl2 := len_any (row c) Try.underlying142
  simp only [List.length_map] at hl2
  repeat (first | (with_reducible refine Wp.st ?_; simp only [wS]) | with_reducible refine Wp.drawS (by decide +kernel) ?_ | simp (disch := (first | (simp only [List.length_set, hl]; omega) | omega | rfl)) only [walkA, walkB, bne_self_eq_false, beq_self_eq_true, Option.map_some, Option.map_none, reduceIte, decide_true, decide_false, Int.reduceLT, Int.reduceLE, Int.reduceMul, Int.reduceAdd, Int.reduceSub, h0, h1, hl2])
  refine Wp.loop (fun m e hh => ∃ (j : Nat) (v' : Value), j + m = ps.length ∧ e.length = 34 ∧ sl e 0 = pt kc 0 ∧ sl e 6 = .slice (some ⟨kl, 0, none⟩) ps.length ps.length ∧ sl e 7 = .int .i64 ps.length ∧ sl e 8 = .int .i64 j ∧
      CW Z H0 hh kc kw v' (bs ++ (ps.take j).flatMap (fun p => beTo p.2 4)) bad ((kt, cs, T) :: (kl, ps.map (fun p => pt kt p.1), Tp) :: L)) ps.length
    ⟨0, wv, by omega, by simp [hl], by (simp (disch := (first | (simp only [List.length_set, hl]; omega) | omega | rfl)) only [sL, h0]), by (simp (disch := (first | (simp only [List.length_set, hl]; omega) | omega | rfl)) only [sL, h1]), by (simp (disch := (first | (simp only [List.length_set, hl]; omega) | omega | rfl)) only [sL]), by (simp (disch := (first | (simp only [List.length_set, hl]; omega) | omega | rfl)) only [sL]); rfl, by simpa using c⟩ ?_
  clear h0 h1 hl env hl2 c
  rintro m e hh ⟨j, v', hj, hl, e0, e6, e7, e8, c⟩
  repeat (first | (with_reducible refine Wp.st ?_; simp only [wS]) | with_reducible refine Wp.drawS (by decide +kernel) ?_ | simp (disch := (first | (simp only [List.length_set, hl]; omega) | omega | rfl)) only [walkA, walkB, bne_self_eq_false, beq_self_eq_true, Option.map_some, Option.map_none, reduceIte, decide_true, decide_false, Int.reduceLT, Int.reduceLE, Int.reduceMul, Int.reduceAdd, Int.reduceSub, e0, e6, e7, e8])
  by_cases hlt : j < ps.length
  · refine Wp.cond_true (by (simp (disch := (first | (simp only [List.length_set, hl]; omega) | omega | rfl)) only [sL, aEval_tmp]); simpa using hlt) ?_
    have lw := c.lw
    obtain ⟨k, off, hx1, hx2⟩ := (row c).index (P := Try.prog) Try.underlying142 iPU32 rfl (j := j) (kd := .i64) (by simpa using hlt)
    rw [← aLoad_one (P := Try.prog) Try.underlying123 (by simp) (by simp), List.getElem_map] at hx2
    have hpj := hp _ (List.getElem_mem hlt)
    have htk : (ps.take (j + 1)).flatMap (fun p => beTo p.2 4) = (ps.take j).flatMap (fun p => beTo p.2 4) ++ beTo (ps[j]).2 4 := by
      rw [List.take_succ_eq_append_getElem hlt, List.flatMap_append]; simp
    have hfl : ((ps.take j).flatMap (fun p => beTo p.2 4)).length ≤ 8 * j := by
      have := flatLen 4 (by decide) (ps.take j)
      rw [List.length_take] at this
      omega
    generalize ps[j] = pj at hx2 hpj htk
    have ld := CW.ld c Try.underlying23 (by simp) (by simp) pj.1
    rw [hpj.1] at ld
    repeat (first | (with_reducible refine Wp.st ?_; simp only [wS]) | with_reducible refine Wp.drawS (by decide +kernel) ?_ | simp (disch := (first | (simp only [List.length_set, hl]; omega) | omega | rfl)) only [walkA, walkB, bne_self_eq_false, beq_self_eq_true, Option.map_some, Option.map_none, reduceIte, decide_true, decide_false, Int.reduceLT, Int.reduceLE, Int.reduceMul, Int.reduceAdd, Int.reduceSub, e0, e6, e7, e8, hx1, hx2, faC1, lw, pw_np])
    refine Wp.cond_true (by first | ((simp (disch := (first | (simp only [List.length_set, hl]; omega) | omega | rfl)) only [sL, aEval_tmp]); done) | ((simp (disch := (first | (simp only [List.length_set, hl]; omega) | omega | rfl)) only [sL, aEval_tmp]); rfl)) ?_
    refine Wp.drawU [(3, 7)] (by kernel_rfl) ?_
    repeat (simp (disch := (first | (simp only [List.length_set, hl]; omega) | omega | rfl)) only [WD_none, WD_guard, WDG_tt, WDG_ff, WDG_tf, WDG_ft, gval_some, nthD_zero, nthD_succ, WD1_move, WD1_assign, WD1_call, WD1_load, WD1_convert, WD1_fieldAddr, WD1_field, WD1_indexAddr, WD1_extract, WD1_binOp, WD1_unOp, WD1_builtin, WD1_slice2, WD1_slice1, WD1_nilCheck, WD1_pick, DPick_bool, DNil_ptr, DH_some, WDraw_nil, withH_val, aEval_tmp, aEval_const, aPut_some, aPut_none, List.length_set, List.map_cons, List.map_nil, sl_eq, sl_ne, cond_true, cond_false, bin_add, bin_sub, bin_eql, bin_neq, bin_lss, bin_leq, bin_gtr, bin_geq, bne_self_eq_false, beq_self_eq_true, un_not, Bool.not_true, Bool.not_false, wrap_i64, e0, e6, e7, e8, faC1, lw, ld, WD1_buildSlice, bs32])
    have c1 := CW.alloc c [.int .u32 pj.2] 23
    have of1 : Off _ v' kw (.slice (some ⟨hh.next, 0, none⟩) 1 1) ([pj.2].map (Value.int .u32)) := WB.offRow (T := 23) c1 (by simp) rfl
    have lw1 := c1.lw
    refine (u32_am _ [pj.2] kw v' _ _ of1 (by simpa using hpj.2) c1.wr c.one (by rw [List.length_append, List.length_singleton]; omega)).mono ?_
    intro v hd q
    obtain ⟨hr, v2, c2⟩ := CW.done c1 q (all_append' c.one (flat_all' _ _ (fun _ _ => beTo_all _ _)))
    rw [hr]
    repeat (simp (disch := (first | (simp only [List.length_set, hl]; omega) | omega | rfl)) only [WD_none, WD_guard, WDG_tt, WDG_ff, WDG_tf, WDG_ft, gval_some, nthD_zero, nthD_succ, WD1_move, WD1_assign, WD1_call, WD1_load, WD1_convert, WD1_fieldAddr, WD1_field, WD1_indexAddr, WD1_extract, WD1_binOp, WD1_unOp, WD1_builtin, WD1_slice2, WD1_slice1, WD1_nilCheck, WD1_pick, DPick_bool, DNil_ptr, DH_some, WDraw_nil, withH_val, aEval_tmp, aEval_const, aPut_some, aPut_none, List.length_set, List.map_cons, List.map_nil, sl_eq, sl_ne, cond_true, cond_false, bin_add, bin_sub, bin_eql, bin_neq, bin_lss, bin_leq, bin_gtr, bin_geq, bne_self_eq_false, beq_self_eq_true, un_not, Bool.not_true, Bool.not_false, wrap_i64, e0, e6])
    refine ⟨?_, ?_⟩
    · simp only [okPair, List.reverse_cons, List.reverse_nil, List.nil_append, List.cons_append, List.getElem?_cons_zero, List.getElem?_cons_succ, List.mem_cons, List.not_mem_nil, or_false, forall_eq_or_imp, forall_eq, Nat.blt_eq, blt_true, blt_false, cond_true, cond_false, Bool.true_eq_false, Bool.false_eq_true, false_or]
      refine sameAt_load ?_ (veqB_ptr _)
      (simp (disch := (first | (simp only [List.length_set, hl]; omega) | omega | rfl)) only [sL, aEval_tmp])
      exact lw1
    repeat (first | (with_reducible refine Wp.st ?_; simp only [wS]) | with_reducible refine Wp.drawS (by decide +kernel) ?_ | simp (disch := (first | (simp only [List.length_set, hl]; omega) | omega | rfl)) only [walkA, walkB, bne_self_eq_false, beq_self_eq_true, Option.map_some, Option.map_none, reduceIte, decide_true, decide_false, Int.reduceLT, Int.reduceLE, Int.reduceMul, Int.reduceAdd, Int.reduceSub, e0, e6, e7, e8])
    refine ⟨m - 1, by omega, j + 1, v2, by omega, by simp [hl], by (simp (disch := (first | (simp only [List.length_set, hl]; omega) | omega | rfl)) only [sL, e0]), by (simp (disch := (first | (simp only [List.length_set, hl]; omega) | omega | rfl)) only [sL, e6]), by (simp (disch := (first | (simp only [List.length_set, hl]; omega) | omega | rfl)) only [sL, e7]), by (simp (disch := (first | (simp only [List.length_set, hl]; omega) | omega | rfl)) only [sL, Int.natCast_add]); rfl, ?_⟩
    rw [htk, ← List.append_assoc]
    simpa using CW.drop c2
  · refine Wp.cond_false (by (simp (disch := (first | (simp only [List.length_set, hl]; omega) | omega | rfl)) only [sL, aEval_tmp]); simpa using hlt) ?_
    repeat (first | (with_reducible refine Wp.st ?_; simp only [wS]) | with_reducible refine Wp.drawS (by decide +kernel) ?_ | simp (disch := (first | (simp only [List.length_set, hl]; omega) | omega | rfl)) only [walkA, walkB, bne_self_eq_false, beq_self_eq_true, Option.map_some, Option.map_none, reduceIte, decide_true, decide_false, Int.reduceLT, Int.reduceLE, Int.reduceMul, Int.reduceAdd, Int.reduceSub, e0, e6, e7, e8])
    simp only [aRes_none Try.results55]
    rw [List.take_of_length_le (by omega)] at c
    exact ⟨trivial, v', CW.drop (CW.swap c)⟩
set_option maxHeartbeats 1000000 in
theorem u64W_am (kl : Nat) (Tp : TypeId) (ps : List (Nat × Int)) (c : CW Z H0 h kc kw wv bs bad ((kt, cs, T) :: (kl, ps.map (fun p => pt kt p.1), Tp) :: L)) (hp : ∀ p ∈ ps, cs[p.1]? = some (.int .u64 p.2) ∧ True) (hn : ps.length ≤ 1000) (hlen : bs.length ≤ 700000000) :
    Cl Try.prog 56 [pt kc 0, .slice (some ⟨kl, 0, none⟩) ps.length ps.length] h fun v h' => v = .tuple #[] ∧ ∃ v', CW Z H0 h' kc kw v' (bs ++ ps.flatMap (fun p => beTo p.2 8)) bad ((kt, cs, T) :: L) := by
  refine Cl.enter Try.func56 rfl 34 Try.ntmps56 (by simp) ?_
  intro env hl ha
  have h0 : sl env 0 = pt kc 0 := ha 0 (by simp)
  have h1 : sl env 1 = .slice (some ⟨kl, 0, none⟩) ps.length ps.length := ha 1 (by simp)
  clear ha
  have row : ∀ {h : Heap} {wv : Value} {bs : List Value}, CW Z H0 h kc kw wv bs bad ((kt, cs, T) :: (kl, ps.map (fun p => pt kt p.1), Tp) :: L) → Row h (.slice (some ⟨kl, 0, none⟩) ps.length ps.length) (ps.map (fun p => pt kt p.1)) := fun c => (WB.offRow (T := Tp) c (by simp) (by simp)).1
  have hl2 := len_any (row c) Try.underlying143
  simp only [List.length_map] at hl2
  repeat (first | (with_reducible refine Wp.st ?_; simp only [wS]) | with_reducible refine Wp.drawS (by decide +kernel) ?_ | simp (disch := (first | (simp only [List.length_set, hl]; omega) | omega | rfl)) only [walkA, walkB, bne_self_eq_false, beq_self_eq_true, Option.map_some, Option.map_none, reduceIte, decide_true, decide_false, Int.reduceLT, Int.reduceLE, Int.reduceMul, Int.reduceAdd, Int.reduceSub, h0, h1, hl2])
  refine Wp.loop (fun m e hh => ∃ (j : Nat) (v' : Value), j + m = ps.length ∧ e.length = 34 ∧ sl e 0 = pt kc 0 ∧ sl e 6 = .slice (some ⟨kl, 0, none⟩) ps.length ps.length ∧ sl e 7 = .int .i64 ps.length ∧ sl e 8 = .int .i64 j ∧
      CW Z H0 hh kc kw v' (bs ++ (ps.take j).flatMap (fun p => beTo p.2 8)) bad ((kt, cs, T) :: (kl, ps.map (fun p => pt kt p.1), Tp) :: L)) ps.length
    ⟨0, wv, by omega, by simp [hl], by (simp (disch := (first | (simp only [List.length_set, hl]; omega) | omega | rfl)) only [sL, h0]), by (simp (disch := (first | (simp only [List.length_set, hl]; omega) | omega | rfl)) only [sL, h1]), by (simp (disch := (first | (simp only [List.length_set, hl]; omega) | omega | rfl)) only [sL]), by (simp (disch := (first | (simp only [List.length_set, hl]; omega) | omega | rfl)) only [sL]); rfl, by simpa using c⟩ ?_
  clear h0 h1 hl env hl2 c
  rintro m e hh ⟨j, v', hj, hl, e0, e6, e7, e8, c⟩
  repeat (first | (with_reducible refine Wp.st ?_; simp only [wS]) | with_reducible refine Wp.drawS (by decide +kernel) ?_ | simp (disch := (first | (simp only [List.length_set, hl]; omega) | omega | rfl)) only [walkA, walkB, bne_self_eq_false, beq_self_eq_true, Option.map_some, Option.map_none, reduceIte, decide_true, decide_false, Int.reduceLT, Int.reduceLE, Int.reduceMul, Int.reduceAdd, Int.reduceSub, e0, e6, e7, e8])
  by_cases hlt : j < ps.length
  · refine Wp.cond_true (by (simp (disch := (first | (simp only [List.length_set, hl]; omega) | omega | rfl)) only [sL, aEval_tmp]); simpa using hlt) ?_
    have lw := c.lw
    obtain ⟨k, off, hx1, hx2⟩ := (row c).index (P := Try.prog) Try.underlying143 iPU64 rfl (j := j) (kd := .i64) (by simpa using hlt)
    rw [← aLoad_one (P := Try.prog) Try.underlying125 (by simp) (by simp), List.getElem_map] at hx2
    have hpj := hp _ (List.getElem_mem hlt)
    have htk : (ps.take (j + 1)).flatMap (fun p => beTo p.2 8) = (ps.take j).flatMap (fun p => beTo p.2 8) ++ beTo (ps[j]).2 8 := by
      rw [List.take_succ_eq_append_getElem hlt, List.flatMap_append]; simp
    have hfl : ((ps.take j).flatMap (fun p => beTo p.2 8)).length ≤ 8 * j := by
      have := flatLen 8 (by decide) (ps.take j)
      rw [List.length_take] at this
      omega
    generalize ps[j] = pj at hx2 hpj htk
    have ld := CW.ld c Try.underlying24 (by simp) (by simp) pj.1
    rw [hpj.1] at ld
    repeat (first | (with_reducible refine Wp.st ?_; simp only [wS]) | with_reducible refine Wp.drawS (by decide +kernel) ?_ | simp (disch := (first | (simp only [List.length_set, hl]; omega) | omega | rfl)) only [walkA, walkB, bne_self_eq_false, beq_self_eq_true, Option.map_some, Option.map_none, reduceIte, decide_true, decide_false, Int.reduceLT, Int.reduceLE, Int.reduceMul, Int.reduceAdd, Int.reduceSub, e0, e6, e7, e8, hx1, hx2, faC1, lw, pw_np])
    refine Wp.cond_true (by first | ((simp (disch := (first | (simp only [List.length_set, hl]; omega) | omega | rfl)) only [sL, aEval_tmp]); done) | ((simp (disch := (first | (simp only [List.length_set, hl]; omega) | omega | rfl)) only [sL, aEval_tmp]); rfl)) ?_
    refine Wp.drawU [(3, 7)] (by kernel_rfl) ?_
    repeat (simp (disch := (first | (simp only [List.length_set, hl]; omega) | omega | rfl)) only [WD_none, WD_guard, WDG_tt, WDG_ff, WDG_tf, WDG_ft, gval_some, nthD_zero, nthD_succ, WD1_move, WD1_assign, WD1_call, WD1_load, WD1_convert, WD1_fieldAddr, WD1_field, WD1_indexAddr, WD1_extract, WD1_binOp, WD1_unOp, WD1_builtin, WD1_slice2, WD1_slice1, WD1_nilCheck, WD1_pick, DPick_bool, DNil_ptr, DH_some, WDraw_nil, withH_val, aEval_tmp, aEval_const, aPut_some, aPut_none, List.length_set, List.map_cons, List.map_nil, sl_eq, sl_ne, cond_true, cond_false, bin_add, bin_sub, bin_eql, bin_neq, bin_lss, bin_leq, bin_gtr, bin_geq, bne_self_eq_false, beq_self_eq_true, un_not, Bool.not_true, Bool.not_false, wrap_i64, e0, e6, e7, e8, faC1, lw, ld, WD1_buildSlice, bs64])
    have c1 := CW.alloc c [.int .u64 pj.2] 24
    have of1 : Off _ v' kw (.slice (some ⟨hh.next, 0, none⟩) 1 1) ([pj.2].map (Value.int .u64)) := WB.offRow (T := 24) c1 (by simp) rfl
    have lw1 := c1.lw
    refine (u64_am _ [pj.2] kw v' _ _ of1 c1.wr c.one (by rw [List.length_append, List.length_singleton]; omega)).mono ?_
    intro v hd q
    obtain ⟨hr, v2, c2⟩ := CW.done c1 q (all_append' c.one (flat_all' _ _ (fun _ _ => beTo_all _ _)))
    rw [hr]
    repeat (simp (disch := (first | (simp only [List.length_set, hl]; omega) | omega | rfl)) only [WD_none, WD_guard, WDG_tt, WDG_ff, WDG_tf, WDG_ft, gval_some, nthD_zero, nthD_succ, WD1_move, WD1_assign, WD1_call, WD1_load, WD1_convert, WD1_fieldAddr, WD1_field, WD1_indexAddr, WD1_extract, WD1_binOp, WD1_unOp, WD1_builtin, WD1_slice2, WD1_slice1, WD1_nilCheck, WD1_pick, DPick_bool, DNil_ptr, DH_some, WDraw_nil, withH_val, aEval_tmp, aEval_const, aPut_some, aPut_none, List.length_set, List.map_cons, List.map_nil, sl_eq, sl_ne, cond_true, cond_false, bin_add, bin_sub, bin_eql, bin_neq, bin_lss, bin_leq, bin_gtr, bin_geq, bne_self_eq_false, beq_self_eq_true, un_not, Bool.not_true, Bool.not_false, wrap_i64, e0, e6])
    refine ⟨?_, ?_⟩
    · simp only [okPair, List.reverse_cons, List.reverse_nil, List.nil_append, List.cons_append, List.getElem?_cons_zero, List.getElem?_cons_succ, List.mem_cons, List.not_mem_nil, or_false, forall_eq_or_imp, forall_eq, Nat.blt_eq, blt_true, blt_false, cond_true, cond_false, Bool.true_eq_false, Bool.false_eq_true, false_or]
      refine sameAt_load ?_ (veqB_ptr _)
      (simp (disch := (first | (simp only [List.length_set, hl]; omega) | omega | rfl)) only [sL, aEval_tmp])
      exact lw1
    repeat (first | (with_reducible refine Wp.st ?_; simp only [wS]) | with_reducible refine Wp.drawS (by decide +kernel) ?_ | simp (disch := (first | (simp only [List.length_set, hl]; omega) | omega | rfl)) only [walkA, walkB, bne_self_eq_false, beq_self_eq_true, Option.map_some, Option.map_none, reduceIte, decide_true, decide_false, Int.reduceLT, Int.reduceLE, Int.reduceMul, Int.reduceAdd, Int.reduceSub, e0, e6, e7, e8])
    refine ⟨m - 1, by omega, j + 1, v2, by omega, by simp [hl], by (simp (disch := (first | (simp only [List.length_set, hl]; omega) | omega | rfl)) only [sL, e0]), by (simp (disch := (first | (simp only [List.length_set, hl]; omega) | omega | rfl)) only [sL, e6]), by (simp (disch := (first | (simp only [List.length_set, hl]; omega) | omega | rfl)) only [sL, e7]), by (simp (disch := (first | (simp only [List.length_set, hl]; omega) | omega | rfl)) only [sL, Int.natCast_add]); rfl, ?_⟩
    rw [htk, ← List.append_assoc]
    simpa using CW.drop c2
  · refine Wp.cond_false (by (simp (disch := (first | (simp only [List.length_set, hl]; omega) | omega | rfl)) only [sL, aEval_tmp]); simpa using hlt) ?_
    repeat (first | (with_reducible refine Wp.st ?_; simp only [wS]) | with_reducible refine Wp.drawS (by decide +kernel) ?_ | simp (disch := (first | (simp only [List.length_set, hl]; omega) | omega | rfl)) only [walkA, walkB, bne_self_eq_false, beq_self_eq_true, Option.map_some, Option.map_none, reduceIte, decide_true, decide_false, Int.reduceLT, Int.reduceLE, Int.reduceMul, Int.reduceAdd, Int.reduceSub, e0, e6, e7, e8])
    simp only [aRes_none Try.results56]
    rw [List.take_of_length_le (by omega)] at c
    exact ⟨trivial, v', CW.drop (CW.swap c)⟩
end
end Go.Proofs.Ytanknjpcgceccaa

namespace Go.Proofs.Ytanknjpcgceccaa
open Go Go.AM
set_option linter.unusedSimpArgs false
set_option maxRecDepth 100000
attribute [local irreducible] WOps WV WH WSt WNil WPick WGd
section
variable (Z : Nat → Prop) (H0 h : Heap) (kc kw : Nat) (wv : Value) (bs : List Value) (bad : Bool) (L : List Blk) (kt : Nat) (cs : List Value) (T : TypeId)
theorem u32W1 (o : Nat) (n : Int) (c : CW Z H0 h kc kw wv bs bad ((kt, cs, T) :: L)) (hv : cs[o]? = some (.int .u32 n)) (hn0 : 0 ≤ n) (hn1 : n < 4294967296) (hlen : bs.length ≤ 700000000) :
    Cl Try.prog 55 [pt kc 0, .slice (some ⟨h.next, 0, none⟩) 1 1] (h.push (.cells [pt kt o] 123 false)) fun v h' => v = .tuple #[] ∧ ∃ v', CW Z H0 h' kc kw v' (bs ++ beTo n 4) bad ((kt, cs, T) :: L) :=
  (u32W_am Z H0 _ kc kw wv bs bad L kt cs T h.next 123 [(o, n)] (CW.alloc c _ _).swap (by simpa using ⟨hv, hn0, hn1⟩) (by simp) hlen).mono fun v h' q => ⟨q.1, by simpa using q.2⟩
theorem u64W1 (o : Nat) (n : Int) (c : CW Z H0 h kc kw wv bs bad ((kt, cs, T) :: L)) (hv : cs[o]? = some (.int .u64 n)) (hlen : bs.length ≤ 700000000) :
    Cl Try.prog 56 [pt kc 0, .slice (some ⟨h.next, 0, none⟩) 1 1] (h.push (.cells [pt kt o] 125 false)) fun v h' => v = .tuple #[] ∧ ∃ v', CW Z H0 h' kc kw v' (bs ++ beTo n 8) bad ((kt, cs, T) :: L) :=
  (u64W_am Z H0 _ kc kw wv bs bad L kt cs T h.next 125 [(o, n)] (CW.alloc c _ _).swap (by simpa using hv) (by simp) hlen).mono fun v h' q => ⟨q.1, by simpa using q.2⟩
theorem u32W2 (o p : Nat) (n m : Int) (c : CW Z H0 h kc kw wv bs bad ((kt, cs, T) :: L)) (hv : cs[o]? = some (.int .u32 n)) (hn0 : 0 ≤ n) (hn1 : n < 4294967296) (hv2 : cs[p]? = some (.int .u32 m)) (hm0 : 0 ≤ m) (hm1 : m < 4294967296) (hlen : bs.length ≤ 700000000) :
    Cl Try.prog 55 [pt kc 0, .slice (some ⟨h.next, 0, none⟩) 2 2] (h.push (.cells [pt kt o, pt kt p] 123 false)) fun v h' => v = .tuple #[] ∧ ∃ v', CW Z H0 h' kc kw v' (bs ++ (beTo n 4 ++ beTo m 4)) bad ((kt, cs, T) :: L) :=
  (u32W_am Z H0 _ kc kw wv bs bad L kt cs T h.next 123 [(o, n), (p, m)] (CW.alloc c _ _).swap (by simpa using ⟨⟨hv, hn0, hn1⟩, hv2, hm0, hm1⟩) (by simp) hlen).mono fun v h' q => ⟨q.1, by simpa using q.2⟩
theorem u64W2 (o p : Nat) (n m : Int) (c : CW Z H0 h kc kw wv bs bad ((kt, cs, T) :: L)) (hv : cs[o]? = some (.int .u64 n)) (hv2 : cs[p]? = some (.int .u64 m)) (hlen : bs.length ≤ 700000000) :
    Cl Try.prog 56 [pt kc 0, .slice (some ⟨h.next, 0, none⟩) 2 2] (h.push (.cells [pt kt o, pt kt p] 125 false)) fun v h' => v = .tuple #[] ∧ ∃ v', CW Z H0 h' kc kw v' (bs ++ (beTo n 8 ++ beTo m 8)) bad ((kt, cs, T) :: L) :=
  (u64W_am Z H0 _ kc kw wv bs bad L kt cs T h.next 125 [(o, n), (p, m)] (CW.alloc c _ _).swap (by simpa using ⟨hv, hv2⟩) (by simp) hlen).mono fun v h' q => ⟨q.1, by simpa using q.2⟩
theorem wrap32_le (x : Int) : 0 ≤ IntKind.u32.wrap x ∧ IntKind.u32.wrap x < 4294967296 := by
  constructor <;> simp [IntKind.wrap, IntKind.bits, IntKind.signed] <;> omega
set_option maxHeartbeats 1000000 in
theorem numW_am (o : Nat) (a b v0 : Int) (c : CW Z H0 h kc kw wv bs bad ((kt, cs, T) :: L)) (hv : cs[o]? = some (.int .i64 v0)) (hlen : bs.length ≤ 700000000) :
    Cl Try.prog 57 [pt kc 0, pt kt o, .int .i64 a, .int .i64 b] h fun v h' => v = .tuple #[] ∧ ∃ v', CW Z H0 h' kc kw v' (bs ++ beTo (IntKind.u32.wrap v0) 4) (bad || !(decide (a ≤ v0) && decide (v0 ≤ b))) ((kt, cs, T) :: L) := by
  refine Cl.enter Try.func57 rfl 58 Try.ntmps57 (by simp) ?_
  intro env hl ha
  have h0 : sl env 0 = pt kc 0 := ha 0 (by simp)
  have h1 : sl env 1 = pt kt o := ha 1 (by simp)
  have h2 : sl env 2 = .int .i64 a := ha 2 (by simp)
  have h3 : sl env 3 = .int .i64 b := ha 3 (by simp)
  clear ha
  have h1' := h1
  have h2' := h2
  have h3' := h3
  clear h1 h2 h3
  have lw := c.lw
  have ld := CW.ld c Try.underlying3 (by simp) (by simp) o
  rw [hv] at ld
  have w1 := wrap32_le v0
  have hcv := fun x hx => conv_int (h := hx) (k' := .i64) (n := x) Try.underlying3 Try.underlying23
  by_cases hf : a ≤ v0
  · have d1 : decide (v0 ≥ a) = true := decide_eq_true hf
    repeat (first | (with_reducible refine Wp.st ?_; simp only [wS]) | with_reducible refine Wp.drawS (by decide +kernel) ?_ | simp (disch := (first | (simp only [List.length_set, hl]; omega) | omega | rfl)) only [walkA, walkB, bne_self_eq_false, beq_self_eq_true, Option.map_some, Option.map_none, reduceIte, decide_true, decide_false, Int.reduceLT, Int.reduceLE, Int.reduceMul, Int.reduceAdd, Int.reduceSub, h0, h1', h2', h3', faC1, lw, pw_np])
    refine Wp.cond_true (by first | ((simp (disch := (first | (simp only [List.length_set, hl]; omega) | omega | rfl)) only [sL, aEval_tmp]); done) | ((simp (disch := (first | (simp only [List.length_set, hl]; omega) | omega | rfl)) only [sL, aEval_tmp]); rfl)) ?_
    repeat (first | (with_reducible refine Wp.st ?_; simp only [wS]) | with_reducible refine Wp.drawS (by decide +kernel) ?_ | simp (disch := (first | (simp only [List.length_set, hl]; omega) | omega | rfl)) only [walkA, walkB, bne_self_eq_false, beq_self_eq_true, Option.map_some, Option.map_none, reduceIte, decide_true, decide_false, Int.reduceLT, Int.reduceLE, Int.reduceMul, Int.reduceAdd, Int.reduceSub, h0, h1', h2', h3', ld, d1])
    refine (mustW_am (decide (v0 ≤ b)) c).mono ?_
    intro v h1 q
    rw [q.1]
    have c1 := q.2
    clear q
    have ld1 := CW.ld c1 Try.underlying3 (by simp) (by simp) o
    rw [hv] at ld1
    have al := alU32 (h := h1)
    obtain ⟨h3, p1, c3⟩ := CW.put (CW.alloc c1 [.int .u32 0] 23) iU32 rfl 0 (by simp) (v := .int .u32 (IntKind.u32.wrap v0)) rfl rfl
    generalize h1.push (.cells [.int .u32 0] 23 false) = h2 at al p1
    generalize h1.next = kn at al p1 c3
    repeat (first | (with_reducible refine Wp.st ?_; simp only [wS]) | with_reducible refine Wp.drawS (by decide +kernel) ?_ | simp (disch := (first | (simp only [List.length_set, hl]; omega) | omega | rfl)) only [walkA, walkB, bne_self_eq_false, beq_self_eq_true, Option.map_some, Option.map_none, reduceIte, decide_true, decide_false, Int.reduceLT, Int.reduceLE, Int.reduceMul, Int.reduceAdd, Int.reduceSub, h0, h1', h2', h3', ld1, hcv, al, p1, bp32])
    refine (u32W1 _ _ _ kc kw _ bs _ _ kn _ _ 0 (IntKind.u32.wrap v0) c3 rfl w1.1 w1.2 hlen).mono ?_
    intro v h4 q
    rw [q.1]
    obtain ⟨v', c4⟩ := q.2
    have lw4 := c4.lw
    repeat (first | (with_reducible refine Wp.st ?_; simp only [wS]) | with_reducible refine Wp.drawS (by decide +kernel) ?_ | simp (disch := (first | (simp only [List.length_set, hl]; omega) | omega | rfl)) only [walkA, walkB, bne_self_eq_false, beq_self_eq_true, Option.map_some, Option.map_none, reduceIte, decide_true, decide_false, Int.reduceLT, Int.reduceLE, Int.reduceMul, Int.reduceAdd, Int.reduceSub, h0, h1', h2', h3', faC1, lw4, pw_ep])
    refine Wp.cond_false (by first | ((simp (disch := (first | (simp only [List.length_set, hl]; omega) | omega | rfl)) only [sL, aEval_tmp]); done) | ((simp (disch := (first | (simp only [List.length_set, hl]; omega) | omega | rfl)) only [sL, aEval_tmp]); rfl)) ?_
    repeat (first | (with_reducible refine Wp.st ?_; simp only [wS]) | with_reducible refine Wp.drawS (by decide +kernel) ?_ | simp (disch := (first | (simp only [List.length_set, hl]; omega) | omega | rfl)) only [walkA, walkB, bne_self_eq_false, beq_self_eq_true, Option.map_some, Option.map_none, reduceIte, decide_true, decide_false, Int.reduceLT, Int.reduceLE, Int.reduceMul, Int.reduceAdd, Int.reduceSub, h0])
    simp only [aRes_none Try.results57]
    rw [Bool.true_and]
    exact ⟨trivial, v', CW.drop c4⟩
  · have d1 : decide (v0 ≥ a) = false := decide_eq_false hf
    repeat (first | (with_reducible refine Wp.st ?_; simp only [wS]) | with_reducible refine Wp.drawS (by decide +kernel) ?_ | simp (disch := (first | (simp only [List.length_set, hl]; omega) | omega | rfl)) only [walkA, walkB, bne_self_eq_false, beq_self_eq_true, Option.map_some, Option.map_none, reduceIte, decide_true, decide_false, Int.reduceLT, Int.reduceLE, Int.reduceMul, Int.reduceAdd, Int.reduceSub, h0, h1', h2', h3', faC1, lw, pw_np])
    refine Wp.cond_true (by first | ((simp (disch := (first | (simp only [List.length_set, hl]; omega) | omega | rfl)) only [sL, aEval_tmp]); done) | ((simp (disch := (first | (simp only [List.length_set, hl]; omega) | omega | rfl)) only [sL, aEval_tmp]); rfl)) ?_
    repeat (first | (with_reducible refine Wp.st ?_; simp only [wS]) | with_reducible refine Wp.drawS (by decide +kernel) ?_ | simp (disch := (first | (simp only [List.length_set, hl]; omega) | omega | rfl)) only [walkA, walkB, bne_self_eq_false, beq_self_eq_true, Option.map_some, Option.map_none, reduceIte, decide_true, decide_false, Int.reduceLT, Int.reduceLE, Int.reduceMul, Int.reduceAdd, Int.reduceSub, h0, h1', h2', h3', ld, d1])
    refine (mustW_am false c).mono ?_
    intro v h1 q
    rw [q.1]
    have c1 := q.2
    clear q
    have ld1 := CW.ld c1 Try.underlying3 (by simp) (by simp) o
    rw [hv] at ld1
    have al := alU32 (h := h1)
    obtain ⟨h3, p1, c3⟩ := CW.put (CW.alloc c1 [.int .u32 0] 23) iU32 rfl 0 (by simp) (v := .int .u32 (IntKind.u32.wrap v0)) rfl rfl
    generalize h1.push (.cells [.int .u32 0] 23 false) = h2 at al p1
    generalize h1.next = kn at al p1 c3
    repeat (first | (with_reducible refine Wp.st ?_; simp only [wS]) | with_reducible refine Wp.drawS (by decide +kernel) ?_ | simp (disch := (first | (simp only [List.length_set, hl]; omega) | omega | rfl)) only [walkA, walkB, bne_self_eq_false, beq_self_eq_true, Option.map_some, Option.map_none, reduceIte, decide_true, decide_false, Int.reduceLT, Int.reduceLE, Int.reduceMul, Int.reduceAdd, Int.reduceSub, h0, h1', h2', h3', ld1, hcv, al, p1, bp32])
    refine (u32W1 _ _ _ kc kw _ bs _ _ kn _ _ 0 (IntKind.u32.wrap v0) c3 rfl w1.1 w1.2 hlen).mono ?_
    intro v h4 q
    rw [q.1]
    obtain ⟨v', c4⟩ := q.2
    have lw4 := c4.lw
    repeat (first | (with_reducible refine Wp.st ?_; simp only [wS]) | with_reducible refine Wp.drawS (by decide +kernel) ?_ | simp (disch := (first | (simp only [List.length_set, hl]; omega) | omega | rfl)) only [walkA, walkB, bne_self_eq_false, beq_self_eq_true, Option.map_some, Option.map_none, reduceIte, decide_true, decide_false, Int.reduceLT, Int.reduceLE, Int.reduceMul, Int.reduceAdd, Int.reduceSub, h0, h1', h2', h3', faC1, lw4, pw_ep])
    refine Wp.cond_false (by first | ((simp (disch := (first | (simp only [List.length_set, hl]; omega) | omega | rfl)) only [sL, aEval_tmp]); done) | ((simp (disch := (first | (simp only [List.length_set, hl]; omega) | omega | rfl)) only [sL, aEval_tmp]); rfl)) ?_
    repeat (first | (with_reducible refine Wp.st ?_; simp only [wS]) | with_reducible refine Wp.drawS (by decide +kernel) ?_ | simp (disch := (first | (simp only [List.length_set, hl]; omega) | omega | rfl)) only [walkA, walkB, bne_self_eq_false, beq_self_eq_true, Option.map_some, Option.map_none, reduceIte, decide_true, decide_false, Int.reduceLT, Int.reduceLE, Int.reduceMul, Int.reduceAdd, Int.reduceSub, h0])
    simp only [aRes_none Try.results57]
    rw [Bool.false_and]
    exact ⟨trivial, v', CW.drop c4⟩
theorem bsRow {h : Heap} {a : Option Addr} {n c : Nat} : aBuildSlice Try.prog h 165 1 [(0, .slice a n c)] = some (.slice (some ⟨h.next, 0, none⟩) 1 1, h.push (.cells [.slice a n c] 22 false)) := by kernel_rfl
set_option maxHeartbeats 1000000 in
theorem rowW_am (o : Nat) (most : Int) (dv : Value) (xs : List Value) (c : CW Z H0 h kc kw wv bs bad ((kt, cs, T) :: L)) (hv : cs[o]? = some dv) (hsl : ∃ a n c, dv = .slice a n c)
    (hOff : ∀ h' v' bs' b' L', CW Z H0 h' kc kw v' bs' b' (L' ++ (kt, cs, T) :: L) → Off h' v' kw dv xs) (hx1 : xs.all Value.oneCell' = true) (hxl : xs.length ≤ 2000000) (hlen : bs.length ≤ 9000000) :
    Cl Try.prog 58 [pt kc 0, pt kt o, .int .i64 most] h fun v h' => v = .tuple #[] ∧ ∃ v', CW Z H0 h' kc kw v' (bs ++ bytesB (dv, xs)) (bad || !(decide ((xs.length : Int) ≤ most))) ((kt, cs, T) :: L) := by
  refine Cl.enter Try.func58 rfl 36 Try.ntmps58 (by simp) ?_
  intro env hl ha
  have h0 : sl env 0 = pt kc 0 := ha 0 (by simp)
  have h1 : sl env 1 = pt kt o := ha 1 (by simp)
  have h2 : sl env 2 = .int .i64 most := ha 2 (by simp)
  clear ha
  have lw := c.lw
  have ld := CW.ld c Try.underlying22 (by simp) (by simp) o
  rw [hv] at ld
  have hl2 := len_any (hOff _ _ _ _ [] c).1 Try.underlying22
  repeat (first | (with_reducible refine Wp.st ?_; simp only [wS]) | with_reducible refine Wp.drawS (by decide +kernel) ?_ | simp (disch := (first | (simp only [List.length_set, hl]; omega) | omega | rfl)) only [walkA, walkB, bne_self_eq_false, beq_self_eq_true, Option.map_some, Option.map_none, reduceIte, decide_true, decide_false, Int.reduceLT, Int.reduceLE, Int.reduceMul, Int.reduceAdd, Int.reduceSub, h0, h1, h2, faC1, lw, pw_ep])
  refine Wp.cond_false (by first | ((simp (disch := (first | (simp only [List.length_set, hl]; omega) | omega | rfl)) only [sL, aEval_tmp]); done) | ((simp (disch := (first | (simp only [List.length_set, hl]; omega) | omega | rfl)) only [sL, aEval_tmp]); rfl)) ?_
  repeat (first | (with_reducible refine Wp.st ?_; simp only [wS]) | with_reducible refine Wp.drawS (by decide +kernel) ?_ | simp (disch := (first | (simp only [List.length_set, hl]; omega) | omega | rfl)) only [walkA, walkB, bne_self_eq_false, beq_self_eq_true, Option.map_some, Option.map_none, reduceIte, decide_true, decide_false, Int.reduceLT, Int.reduceLE, Int.reduceMul, Int.reduceAdd, Int.reduceSub, h0, h1, h2, ld, hl2])
  refine (mustW_am (decide ((xs.length : Int) ≤ most)) c).mono ?_
  intro v h1' q
  rw [q.1]
  have c1 := q.2
  clear q
  have lw := c1.lw
  have ld := CW.ld c1 Try.underlying22 (by simp) (by simp) o
  rw [hv] at ld
  obtain ⟨da, dn, dc, hdv⟩ := hsl
  have bsr := bsRow (h := h1') (a := da) (n := dn) (c := dc)
  rw [← hdv] at bsr
  repeat (first | (with_reducible refine Wp.st ?_; simp only [wS]) | with_reducible refine Wp.drawS (by decide +kernel) ?_ | simp (disch := (first | (simp only [List.length_set, hl]; omega) | omega | rfl)) only [walkA, walkB, bne_self_eq_false, beq_self_eq_true, Option.map_some, Option.map_none, reduceIte, decide_true, decide_false, Int.reduceLT, Int.reduceLE, Int.reduceMul, Int.reduceAdd, Int.reduceSub, h0, h1, h2])
  refine Wp.drawU [(3, 7)] (by kernel_rfl) ?_
  repeat (simp (disch := (first | (simp only [List.length_set, hl]; omega) | omega | rfl)) only [WD_none, WD_guard, WDG_tt, WDG_ff, WDG_tf, WDG_ft, gval_some, nthD_zero, nthD_succ, WD1_move, WD1_assign, WD1_call, WD1_load, WD1_convert, WD1_fieldAddr, WD1_field, WD1_indexAddr, WD1_extract, WD1_binOp, WD1_unOp, WD1_builtin, WD1_slice2, WD1_slice1, WD1_nilCheck, WD1_pick, DPick_bool, DNil_ptr, DH_some, WDraw_nil, withH_val, aEval_tmp, aEval_const, aPut_some, aPut_none, List.length_set, List.map_cons, List.map_nil, sl_eq, sl_ne, cond_true, cond_false, bin_add, bin_sub, bin_eql, bin_neq, bin_lss, bin_leq, bin_gtr, bin_geq, bne_self_eq_false, beq_self_eq_true, un_not, Bool.not_true, Bool.not_false, wrap_i64, h0, h1, faC1, lw, ld, WD1_buildSlice, bsr])
  have c2 := CW.alloc c1 [dv] 22
  have of1 : Off _ wv kw (.slice (some ⟨h1'.next, 0, none⟩) 1 1) [dv] := WB.offRow (T := 22) c2 (by simp) rfl
  have of2 := hOff _ _ _ _ [(h1'.next, [dv], 22)] c2
  have lw1 := c2.lw
  refine (bytes_am _ [(dv, xs)] kw wv bs _ ⟨of1, by simp, fun p hp => by obtain rfl := List.mem_singleton.1 hp; exact ⟨of2, hx1, hxl, da, dn, dc, hdv⟩⟩ c2.wr c.one (by omega)).mono ?_
  intro v hd q
  obtain ⟨hr, v', c3⟩ := CW.done c2 q (all_append' c.one (by simpa [bytesB] using all_append' (beTo_all _ 4) (all_append' hx1 (padB_all _))))
  rw [hr]
  repeat (simp (disch := (first | (simp only [List.length_set, hl]; omega) | omega | rfl)) only [WD_none, WD_guard, WDG_tt, WDG_ff, WDG_tf, WDG_ft, gval_some, nthD_zero, nthD_succ, WD1_move, WD1_assign, WD1_call, WD1_load, WD1_convert, WD1_fieldAddr, WD1_field, WD1_indexAddr, WD1_extract, WD1_binOp, WD1_unOp, WD1_builtin, WD1_slice2, WD1_slice1, WD1_nilCheck, WD1_pick, DPick_bool, DNil_ptr, DH_some, WDraw_nil, withH_val, aEval_tmp, aEval_const, aPut_some, aPut_none, List.length_set, List.map_cons, List.map_nil, sl_eq, sl_ne, cond_true, cond_false, bin_add, bin_sub, bin_eql, bin_neq, bin_lss, bin_leq, bin_gtr, bin_geq, bne_self_eq_false, beq_self_eq_true, un_not, Bool.not_true, Bool.not_false, wrap_i64, h0, h1])
  refine ⟨?_, ?_⟩
  · simp only [okPair, List.reverse_cons, List.reverse_nil, List.nil_append, List.cons_append, List.getElem?_cons_zero, List.getElem?_cons_succ, List.mem_cons, List.not_mem_nil, or_false, forall_eq_or_imp, forall_eq, Nat.blt_eq, blt_true, blt_false, cond_true, cond_false, Bool.true_eq_false, Bool.false_eq_true, false_or]
    refine sameAt_load ?_ (veqB_ptr _)
    (simp (disch := (first | (simp only [List.length_set, hl]; omega) | omega | rfl)) only [sL, aEval_tmp])
    exact lw1
  repeat (first | (with_reducible refine Wp.st ?_; simp only [wS]) | with_reducible refine Wp.drawS (by decide +kernel) ?_ | simp (disch := (first | (simp only [List.length_set, hl]; omega) | omega | rfl)) only [walkA, walkB, bne_self_eq_false, beq_self_eq_true, Option.map_some, Option.map_none, reduceIte, decide_true, decide_false, Int.reduceLT, Int.reduceLE, Int.reduceMul, Int.reduceAdd, Int.reduceSub, h0])
  simp only [aRes_none Try.results58]
  exact ⟨trivial, v', by simpa using CW.drop c3⟩
end
end Go.Proofs.Ytanknjpcgceccaa

namespace Go.Proofs.Ytanknjpcgceccaa
open Go Go.AM
set_option linter.unusedSimpArgs false
set_option maxRecDepth 100000
attribute [local irreducible] WOps WV WH WSt WNil WPick WGd
def strB (s : ByteArray) : List Value := s.data.toList.map fun b => .int .u8 b.toNat
theorem strB_len (s : ByteArray) : (strB s).length = s.size := by unfold strB; rw [List.length_map, Array.length_toList]; rfl
theorem strB_one (s : ByteArray) : (strB s).all Value.oneCell' = true := List.all_eq_true.2 fun x hx => by
  obtain ⟨b, _, rfl⟩ := List.mem_map.1 hx
  rfl
section
variable (Z : Nat → Prop) (H0 h : Heap) (kc kw : Nat) (wv : Value) (bs : List Value) (bad : Bool) (L : List Blk) (kt : Nat) (cs : List Value) (T : TypeId)
set_option maxHeartbeats 1000000 in
theorem textW_am (o : Nat) (most : Int) (s0 : ByteArray) (c : CW Z H0 h kc kw wv bs bad ((kt, cs, T) :: L)) (hv : cs[o]? = some (.string s0)) (hs0 : s0.size ≤ 2000000) (hlen : bs.length ≤ 9000000)
    (hcv : ∀ (h : Heap) (v : Value), Row h v (strB s0) → aConv Try.prog h 22 9 v = some (.string s0, h)) :
    Cl Try.prog 51 [pt kc 0, pt kt o, .int .i64 most] h fun v h' => v = .tuple #[] ∧ ∃ v', CW Z H0 h' kc kw v' (bs ++ (beTo s0.size 4 ++ (strB s0 ++ padB s0.size))) (bad || !(decide ((s0.size : Int) ≤ most))) ((kt, cs, T) :: L) := by
  have ho : o < cs.length := (List.getElem?_eq_some_iff.1 hv).1
  refine Cl.enter Try.func51 rfl 18 Try.ntmps51 (by simp) ?_
  intro env hl ha
  have h0 : sl env 0 = pt kc 0 := ha 0 (by simp)
  have h1 : sl env 1 = pt kt o := ha 1 (by simp)
  have h2 : sl env 2 = .int .i64 most := ha 2 (by simp)
  clear ha
  have ld := CW.ld c Try.underlying9 (by simp) (by simp) o
  rw [hv] at ld
  have cv : aConv Try.prog h 9 22 (.string s0) = some (.slice (some ⟨h.next, 0, none⟩) s0.size opnCap, h.push (.cells (strB s0) 5 false)) := cvStr (h := h) (s := s0) (by omega)
  have c0 := CW.alloc c (strB s0) 5
  generalize h.push (.cells (strB s0) 5 false) = hb at cv c0
  generalize h.next = kb at cv c0
  have al := alRow (h := hb)
  have c1 := CW.alloc c0 [.slice none 0 0] 22
  generalize hb.push (.cells [.slice none 0 0] 22 false) = hc at al c1
  generalize hb.next = kv at al c1
  obtain ⟨h3, p1, c3⟩ := CW.put c1 iRow rfl 0 (by simp) (v := .slice (some ⟨kb, 0, none⟩) s0.size opnCap) rfl rfl
  repeat (first | (with_reducible refine Wp.st ?_; simp only [wS]) | with_reducible refine Wp.drawS (by decide +kernel) ?_ | simp (disch := (first | (simp only [List.length_set, hl]; omega) | omega | rfl)) only [walkA, walkB, bne_self_eq_false, beq_self_eq_true, Option.map_some, Option.map_none, reduceIte, decide_true, decide_false, Int.reduceLT, Int.reduceLE, Int.reduceMul, Int.reduceAdd, Int.reduceSub, h0, h1, h2, ld, cv, al, p1])
  have off : ∀ h' v' bs' b' L', CW Z H0 h' kc kw v' bs' b' (L' ++ (kv, [Value.slice none 0 0].set 0 (.slice (some ⟨kb, 0, none⟩) s0.size opnCap), 22) :: (kb, strB s0, 5) :: (kt, cs, T) :: L) → Off h' v' kw (.slice (some ⟨kb, 0, none⟩) s0.size opnCap) (strB s0) := fun h' v' bs' b' L' c => by
    have hm : (kb, strB s0, 5) ∈ ((kc, [.pointer none, pt kw 0, .bool b'], TC) :: (L' ++ (kv, [Value.slice none 0 0].set 0 (.slice (some ⟨kb, 0, none⟩) s0.size opnCap), 22) :: (kb, strB s0, 5) :: (kt, cs, T) :: L)) := by simp
    have hg := c.st.get _ (List.mem_cons_of_mem _ hm)
    refine ⟨by have := Row.whole (cap := opnCap) hg; rw [strB_len] at this; exact this, fun a m d e _ => ?_⟩
    injection e with e1
    injection e1 with e1
    subst e1
    exact ⟨fun hh => hh.elim (fun e => c.st.ne _ hm e) (fun hb => (c.off _ hb).2.2 _ hm rfl), Heap.get_lt hg⟩
  refine (rowW_am Z H0 _ kc kw _ bs _ _ kv _ _ 0 most _ (strB s0) c3 rfl ⟨_, _, _, rfl⟩ off (strB_one s0) (by rw [strB_len]; exact hs0) hlen).mono ?_
  intro v h4 q
  rw [q.1]
  obtain ⟨v', c4⟩ := q.2
  clear q
  have ld2 := CW.ld c4 Try.underlying22 (by simp) (by simp) 0
  rw [List.getElem?_set_self (by simp)] at ld2
  have cv2 := hcv h4 _ (off _ _ _ _ [] c4).1
  obtain ⟨h5, p5, c5⟩ := CW.put (CW.drop (CW.drop c4)) iStr rfl o ho (v := .string s0) rfl rfl
  have e5 : cs.set o (.string s0) = cs := by
    obtain ⟨hl, he⟩ := List.getElem?_eq_some_iff.1 hv
    rw [← he]; exact List.set_getElem_self hl
  rw [e5] at c5
  repeat (first | (with_reducible refine Wp.st ?_; simp only [wS]) | with_reducible refine Wp.drawS (by decide +kernel) ?_ | simp (disch := (first | (simp only [List.length_set, hl]; omega) | omega | rfl)) only [walkA, walkB, bne_self_eq_false, beq_self_eq_true, Option.map_some, Option.map_none, reduceIte, decide_true, decide_false, Int.reduceLT, Int.reduceLE, Int.reduceMul, Int.reduceAdd, Int.reduceSub, h0, h1, h2, ld2, cv2, p5])
  simp only [aRes_none Try.results51]
  simp only [bytesB, strB_len] at c5
  exact ⟨trivial, v', c5⟩
end
end Go.Proofs.Ytanknjpcgceccaa

namespace Go.Proofs.Ytanknjpcgceccaa
open Go Go.AM
set_option linter.unusedSimpArgs false
set_option maxRecDepth 100000
attribute [local irreducible] WOps WV WH WSt WNil WPick WGd
section
variable (Z : Nat → Prop) (H0 h : Heap) (kc kw : Nat) (wv : Value) (bs : List Value) (bad : Bool) (L : List Blk) (kt : Nat) (cs : List Value) (T : TypeId)
theorem timeW_am (o : Nat) (n m : Int) (c : CW Z H0 h kc kw wv bs bad ((kt, cs, T) :: L)) (hv : cs[o]? = some (.int .u32 n)) (hn0 : 0 ≤ n) (hn1 : n < 4294967296) (hv2 : cs[o + 1]? = some (.int .u32 m)) (hm0 : 0 ≤ m) (hm1 : m < 4294967296) (hlen : bs.length ≤ 700000000) :
    Cl Try.prog 54 [pt kc 0, pt kt o] h fun v h' => v = .tuple #[] ∧ ∃ v', CW Z H0 h' kc kw v' (bs ++ (beTo n 4 ++ beTo m 4)) bad ((kt, cs, T) :: L) := by
  refine Cl.enter Try.func54 rfl 13 Try.ntmps54 (by simp) ?_
  intro env hl ha
  have h0 : sl env 0 = pt kc 0 := ha 0 (by simp)
  have h1 : sl env 1 = pt kt o := ha 1 (by simp)
  clear ha
  repeat (first | (with_reducible refine Wp.st ?_; simp only [wS]) | with_reducible refine Wp.drawS (by decide +kernel) ?_ | simp (disch := (first | (simp only [List.length_set, hl]; omega) | omega | rfl)) only [walkA, walkB, bne_self_eq_false, beq_self_eq_true, Option.map_some, Option.map_none, reduceIte, decide_true, decide_false, Int.reduceLT, Int.reduceLE, Int.reduceMul, Int.reduceAdd, Int.reduceSub, h0, h1, faT0, faT1, bp32'])
  refine (u32W2 Z H0 _ kc kw wv bs bad L kt cs T o (o + 1) n m c hv hn0 hn1 hv2 hm0 hm1 hlen).mono ?_
  intro v hh q
  rw [q.1]
  have c := q.2
  clear q
  repeat (first | (with_reducible refine Wp.st ?_; simp only [wS]) | with_reducible refine Wp.drawS (by decide +kernel) ?_ | simp (disch := (first | (simp only [List.length_set, hl]; omega) | omega | rfl)) only [walkA, walkB, bne_self_eq_false, beq_self_eq_true, Option.map_some, Option.map_none, reduceIte, decide_true, decide_false, Int.reduceLT, Int.reduceLE, Int.reduceMul, Int.reduceAdd, Int.reduceSub, h0, h1])
  simp only [aRes_none Try.results54]
  exact ⟨trivial, c⟩
def wHowB (hw a b : Int) : List Value := beTo (IntKind.u32.wrap hw) 4 ++ (if hw = 2 then beTo a 4 ++ beTo b 4 else [])
def wHowC (hw : Int) (t : Nat) (cs : List Value) : List Value := if hw = 2 then cs else (cs.set t (.int .u32 0)).set (t + 1) (.int .u32 0)
theorem CW.two {t : Nat} {a b : Value} (c : CW Z H0 h kc kw wv bs bad ((kt, cs, T) :: L)) (ho : t + 1 < cs.length) (h1 : a.oneCell' = true) (h2 : b.oneCell' = true) :
    ∃ h2, aStore Try.prog h 26 (pt kt t) (.agg #[a, b]) = some h2 ∧ CW Z H0 h2 kc kw wv bs bad ((kt, (cs.set t a).set (t + 1) b, T) :: L) := by
  have c' := WB.perm c (.swap _ _ _)
  have q := St_two c'.st.swap ho h1 h2
  exact ⟨_, q.1, WB.perm (c'.upd (Same.set1 h kt _) (Heap.get_set_eq c'.st.swap.hd)) (.swap _ _ _)⟩
theorem howW_am (o t : Nat) (hw a b : Int) (c : CW Z H0 h kc kw wv bs bad ((kt, cs, T) :: L)) (hv : cs[o]? = some (.int .i64 hw)) (ha : cs[t]? = some (.int .u32 a)) (ha0 : 0 ≤ a) (ha1 : a < 4294967296) (hb : cs[t + 1]? = some (.int .u32 b)) (hb0 : 0 ≤ b) (hb1 : b < 4294967296) (hlen : bs.length ≤ 600000000) :
    Cl Try.prog 74 [pt kc 0, pt kt o, pt kt t] h fun v h' => v = .tuple #[] ∧ ∃ v', CW Z H0 h' kc kw v' (bs ++ wHowB hw a b) (bad || !(decide (0 ≤ hw) && decide (hw ≤ 2))) ((kt, wHowC hw t cs, T) :: L) := by
  have ht : t + 1 < cs.length := (List.getElem?_eq_some_iff.1 hb).1
  refine Cl.enter Try.func74 rfl 19 Try.ntmps74 (by simp) ?_
  intro env hl ha
  have h0 : sl env 0 = pt kc 0 := ha 0 (by simp)
  have h1 : sl env 1 = pt kt o := ha 1 (by simp)
  have h2 : sl env 2 = pt kt t := ha 2 (by simp)
  clear ha
  repeat (first | (with_reducible refine Wp.st ?_; simp only [wS]) | with_reducible refine Wp.drawS (by decide +kernel) ?_ | simp (disch := (first | (simp only [List.length_set, hl]; omega) | omega | rfl)) only [walkA, walkB, bne_self_eq_false, beq_self_eq_true, Option.map_some, Option.map_none, reduceIte, decide_true, decide_false, Int.reduceLT, Int.reduceLE, Int.reduceMul, Int.reduceAdd, Int.reduceSub, h0, h1, h2])
  refine (numW_am Z H0 _ kc kw wv bs bad L kt cs T o 0 2 hw c hv (by omega)).mono ?_
  intro v h3 q
  rw [q.1]
  obtain ⟨v1, c1⟩ := q.2
  clear q
  have ld := CW.ld c1 Try.underlying3 (by simp) (by simp) o
  rw [hv] at ld
  by_cases h2' : hw = 2
  · have d : (hw == 2) = true := by simpa using h2'
    have e1 : wHowB hw a b = beTo (IntKind.u32.wrap hw) 4 ++ (beTo a 4 ++ beTo b 4) := by unfold wHowB; rw [if_pos h2']
    have e2 : wHowC hw t cs = cs := by unfold wHowC; rw [if_pos h2']
    rw [e1, e2, ← List.append_assoc]
    repeat (first | (with_reducible refine Wp.st ?_; simp only [wS]) | with_reducible refine Wp.drawS (by decide +kernel) ?_ | simp (disch := (first | (simp only [List.length_set, hl]; omega) | omega | rfl)) only [walkA, walkB, bne_self_eq_false, beq_self_eq_true, Option.map_some, Option.map_none, reduceIte, decide_true, decide_false, Int.reduceLT, Int.reduceLE, Int.reduceMul, Int.reduceAdd, Int.reduceSub, h0, h1, h2, ld, d])
    refine Wp.cond_true (by first | ((simp (disch := (first | (simp only [List.length_set, hl]; omega) | omega | rfl)) only [sL, aEval_tmp]); done) | ((simp (disch := (first | (simp only [List.length_set, hl]; omega) | omega | rfl)) only [sL, aEval_tmp]); rfl)) ?_
    repeat (first | (with_reducible refine Wp.st ?_; simp only [wS]) | with_reducible refine Wp.drawS (by decide +kernel) ?_ | simp (disch := (first | (simp only [List.length_set, hl]; omega) | omega | rfl)) only [walkA, walkB, bne_self_eq_false, beq_self_eq_true, Option.map_some, Option.map_none, reduceIte, decide_true, decide_false, Int.reduceLT, Int.reduceLE, Int.reduceMul, Int.reduceAdd, Int.reduceSub, h0, h1, h2])
    refine (timeW_am Z H0 _ kc kw v1 _ _ L kt cs T t a b c1 ha ha0 ha1 hb hb0 hb1 (by rw [List.length_append, beTo_length]; omega)).mono ?_
    intro v h4 q
    rw [q.1]
    have c2 := q.2
    clear q
    repeat (first | (with_reducible refine Wp.st ?_; simp only [wS]) | with_reducible refine Wp.drawS (by decide +kernel) ?_ | simp (disch := (first | (simp only [List.length_set, hl]; omega) | omega | rfl)) only [walkA, walkB, bne_self_eq_false, beq_self_eq_true, Option.map_some, Option.map_none, reduceIte, decide_true, decide_false, Int.reduceLT, Int.reduceLE, Int.reduceMul, Int.reduceAdd, Int.reduceSub, h0])
    simp only [aRes_none Try.results74]
    exact ⟨trivial, c2⟩
  · have d : (hw == 2) = false := by simpa using h2'
    have e1 : wHowB hw a b = beTo (IntKind.u32.wrap hw) 4 := by unfold wHowB; rw [if_neg h2', List.append_nil]
    have e2 : wHowC hw t cs = (cs.set t (.int .u32 0)).set (t + 1) (.int .u32 0) := by unfold wHowC; rw [if_neg h2']
    rw [e1, e2]
    obtain ⟨h4, p1, c2⟩ := CW.two _ _ _ _ _ _ _ _ _ _ _ _ c1 ht (a := .int .u32 0) (b := .int .u32 0) rfl rfl
    repeat (first | (with_reducible refine Wp.st ?_; simp only [wS]) | with_reducible refine Wp.drawS (by decide +kernel) ?_ | simp (disch := (first | (simp only [List.length_set, hl]; omega) | omega | rfl)) only [walkA, walkB, bne_self_eq_false, beq_self_eq_true, Option.map_some, Option.map_none, reduceIte, decide_true, decide_false, Int.reduceLT, Int.reduceLE, Int.reduceMul, Int.reduceAdd, Int.reduceSub, h0, h1, h2, ld, d])
    refine Wp.cond_false (by first | ((simp (disch := (first | (simp only [List.length_set, hl]; omega) | omega | rfl)) only [sL, aEval_tmp]); done) | ((simp (disch := (first | (simp only [List.length_set, hl]; omega) | omega | rfl)) only [sL, aEval_tmp]); rfl)) ?_
    repeat (first | (with_reducible refine Wp.st ?_; simp only [wS]) | with_reducible refine Wp.drawS (by decide +kernel) ?_ | simp (disch := (first | (simp only [List.length_set, hl]; omega) | omega | rfl)) only [walkA, walkB, bne_self_eq_false, beq_self_eq_true, Option.map_some, Option.map_none, reduceIte, decide_true, decide_false, Int.reduceLT, Int.reduceLE, Int.reduceMul, Int.reduceAdd, Int.reduceSub, h0, h1, h2, bTime, p1])
    simp only [aRes_none Try.results74]
    exact ⟨trivial, v1, c2⟩
end
end Go.Proofs.Ytanknjpcgceccaa

namespace Go.Proofs.Ytanknjpcgceccaa
open Go Go.AM
set_option linter.unusedSimpArgs false
set_option maxRecDepth 100000
attribute [local irreducible] WOps WV WH WSt WNil WPick WGd
structure SA where
  hm : Bool
  hu : Bool
  hg : Bool
  hs : Bool
  mode : Int
  uid : Int
  gid : Int
  size : Int
  ah : Int
  mh : Int
  a1 : Int
  a2 : Int
  m1 : Int
  m2 : Int
def SA.cells (s : SA) : List Value := [.bool s.hm, .bool s.hu, .bool s.hg, .bool s.hs, .int .i64 s.mode, .int .u32 s.uid, .int .u32 s.gid, .int .u64 s.size, .int .i64 s.ah, .int .i64 s.mh, .int .u32 s.a1, .int .u32 s.a2, .int .u32 s.m1, .int .u32 s.m2]
def u32r (x : Int) : Prop := 0 ≤ x ∧ x < 4294967296
structure SA.OK (s : SA) : Prop where
  uid : u32r s.uid
  gid : u32r s.gid
  a1 : u32r s.a1
  a2 : u32r s.a2
  m1 : u32r s.m1
  m2 : u32r s.m2
def wTr (b : Bool) : List Value := beTo (if b = true then 1 else 0) 4
def wOpt (b : Bool) (l : List Value) : List Value := wTr b ++ (if b = true then l else [])
def badIn (a b v : Int) : Bool := !(decide (a ≤ v) && decide (v ≤ b))
def wSetB (s : SA) : List Value := wOpt s.hm (beTo (IntKind.u32.wrap s.mode) 4) ++ wOpt s.hu (beTo s.uid 4) ++ wOpt s.hg (beTo s.gid 4) ++ wOpt s.hs (beTo s.size 8) ++ wHowB s.ah s.a1 s.a2 ++ wHowB s.mh s.m1 s.m2
def wSetBad (s : SA) : Bool := (s.hm && badIn 0 4294967295 s.mode) || badIn 0 2 s.ah || badIn 0 2 s.mh
def wSetC (s : SA) (o : Nat) (cs : List Value) : List Value := wHowC s.mh (o + 12) (wHowC s.ah (o + 10) cs)
theorem wTr_len (b : Bool) : (wTr b).length = 4 := beTo_length _ _
theorem wOpt_len (b : Bool) {l : List Value} (h : l.length ≤ 8) : (wOpt b l).length ≤ 12 := by
  unfold wOpt; rw [List.length_append, wTr_len]; split
  · omega
  · simp
theorem wHowB_len (a b c : Int) : (wHowB a b c).length ≤ 12 := by
  unfold wHowB; rw [List.length_append, beTo_length]; split <;> simp [beTo_length]
theorem wHowC_get {a : Int} {t p : Nat} {cs : List Value} (h1 : t ≠ p) (h2 : t + 1 ≠ p) : (wHowC a t cs)[p]? = cs[p]? := by
  unfold wHowC; split
  · rfl
  · rw [List.getElem?_set_ne h2, List.getElem?_set_ne h1]
def WQS (kc kt o : Nat) (A : Heap → Prop) : AX → List Value → Heap → Prop := fun ax e h' => ax = .normal ∧ e.length = 63 ∧ sl e 0 = pt kc 0 ∧ sl e 1 = pt kt o ∧ A h'
section
variable (Z : Nat → Prop) (H0 h : Heap) (kc kw : Nat) (wv : Value) (bs : List Value) (bad : Bool) (L : List Blk) (kt : Nat) (cs : List Value) (T : TypeId)
set_option maxHeartbeats 4000000 in
theorem setW_am (o : Nat) (s : SA) (hs : s.OK) (c : CW Z H0 h kc kw wv bs bad ((kt, cs, T) :: L)) (hv : ∀ i, i < 14 → cs[o + i]? = s.cells[i]?) (hlen : bs.length ≤ 500000000) :
    Cl Try.prog 52 [pt kc 0, pt kt o] h fun v h' => v = .tuple #[] ∧ ∃ v', CW Z H0 h' kc kw v' (bs ++ wSetB s) (bad || wSetBad s) ((kt, wSetC s o cs, T) :: L) := by
  refine Cl.enter Try.func52 rfl 63 Try.ntmps52 (by simp) ?_
  intro env hl ha
  have h0 : sl env 0 = pt kc 0 := ha 0 (by simp)
  have h1 : sl env 1 = pt kt o := ha 1 (by simp)
  clear ha
  obtain ⟨hm, hu, hg, hz, mode, uid, gid, size, ah, mh, a1, a2, m1, m2⟩ := s
  obtain ⟨⟨u1, u2⟩, ⟨g1, g2⟩, ⟨x1, x2⟩, ⟨x3, x4⟩, ⟨y1, y2⟩, ⟨y3, y4⟩⟩ := hs
  have k0 : cs[o]? = some (.bool hm) := hv 0 (by decide)
  have k1 : cs[o + 1]? = some (.bool hu) := hv 1 (by decide)
  have k2 : cs[o + 2]? = some (.bool hg) := hv 2 (by decide)
  have k3 : cs[o + 3]? = some (.bool hz) := hv 3 (by decide)
  have k4 : cs[o + 4]? = some (.int .i64 mode) := hv 4 (by decide)
  have k5 : cs[o + 5]? = some (.int .u32 uid) := hv 5 (by decide)
  have k6 : cs[o + 6]? = some (.int .u32 gid) := hv 6 (by decide)
  have k7 : cs[o + 7]? = some (.int .u64 size) := hv 7 (by decide)
  have k8 : cs[o + 8]? = some (.int .i64 ah) := hv 8 (by decide)
  have k9 : cs[o + 9]? = some (.int .i64 mh) := hv 9 (by decide)
  have k10 : cs[o + 10]? = some (.int .u32 a1) := hv 10 (by decide)
  have k11 : cs[o + 11]? = some (.int .u32 a2) := hv 11 (by decide)
  have k12 : cs[o + 12]? = some (.int .u32 m1) := hv 12 (by decide)
  have k13 : cs[o + 13]? = some (.int .u32 m2) := hv 13 (by decide)
  clear hv
  have q0 : ∃ b0 : List Value, b0 = bs := ⟨_, rfl⟩
  have hb0 : bs.length ≤ 500000000 + 12 * 0 := hlen
  repeat (first | (with_reducible refine Wp.st ?_; simp only [wS]) | with_reducible refine Wp.drawS (by decide +kernel) ?_ | simp (disch := (first | (simp only [List.length_set, hl]; omega) | omega | rfl)) only [walkA, walkB, bne_self_eq_false, beq_self_eq_true, Option.map_some, Option.map_none, reduceIte, decide_true, decide_false, Int.reduceLT, Int.reduceLE, Int.reduceMul, Int.reduceAdd, Int.reduceSub, h0, h1, faS0])
  refine (truthW_am Z H0 _ kc kw _ _ _ L kt cs T o hm c k0 (by have := hb0; omega)).mono ?_
  intro v hA q
  rw [q.1]
  obtain ⟨v1, c1⟩ := q.2
  clear q
  repeat (first | (with_reducible refine Wp.st ?_; simp only [wS]) | with_reducible refine Wp.drawS (by decide +kernel) ?_ | simp (disch := (first | (simp only [List.length_set, hl]; omega) | omega | rfl)) only [walkA, walkB, bne_self_eq_false, beq_self_eq_true, Option.map_some, Option.map_none, reduceIte, decide_true, decide_false, Int.reduceLT, Int.reduceLE, Int.reduceMul, Int.reduceAdd, Int.reduceSub, h0, h1])
  refine Wp.mono (Q := WQS kc kt o fun h' => ∃ v', CW Z H0 h' kc kw v' (bs ++ wOpt hm (beTo (IntKind.u32.wrap mode) 4)) (bad || (hm && badIn 0 4294967295 mode)) ((kt, cs, T) :: L)) ?_ ?_
  · cases hb : hm with
    | true =>
      rw [hb] at c1
      have e1 : wOpt true (beTo (IntKind.u32.wrap mode) 4) = beTo (if true = true then 1 else 0) 4 ++ beTo (IntKind.u32.wrap mode) 4 := rfl
      rw [e1, ← List.append_assoc]
      refine Wp.cond_true (by first | ((simp (disch := (first | (simp only [List.length_set, hl]; omega) | omega | rfl)) only [sL, aEval_tmp, hb]); done) | ((simp (disch := (first | (simp only [List.length_set, hl]; omega) | omega | rfl)) only [sL, aEval_tmp, hb]); rfl)) ?_
      repeat (first | (with_reducible refine Wp.st ?_; simp only [wS]) | with_reducible refine Wp.drawS (by decide +kernel) ?_ | simp (disch := (first | (simp only [List.length_set, hl]; omega) | omega | rfl)) only [walkA, walkB, bne_self_eq_false, beq_self_eq_true, Option.map_some, Option.map_none, reduceIte, decide_true, decide_false, Int.reduceLT, Int.reduceLE, Int.reduceMul, Int.reduceAdd, Int.reduceSub, h0, h1, faS4])
      refine (numW_am Z H0 _ kc kw v1 _ _ L kt cs T (o + 4) 0 4294967295 mode c1 k4 (by rw [List.length_append, beTo_length]; have := hb0; omega)).mono ?_
      intro v hB q
      rw [q.1]
      obtain ⟨v2, c2⟩ := q.2
      clear q
      repeat (first | (with_reducible refine Wp.st ?_; simp only [wS]) | with_reducible refine Wp.drawS (by decide +kernel) ?_ | simp (disch := (first | (simp only [List.length_set, hl]; omega) | omega | rfl)) only [walkA, walkB, bne_self_eq_false, beq_self_eq_true, Option.map_some, Option.map_none, reduceIte, decide_true, decide_false, Int.reduceLT, Int.reduceLE, Int.reduceMul, Int.reduceAdd, Int.reduceSub, h0, h1])
      exact ⟨rfl, by simp [hl], (by (simp (disch := (first | (simp only [List.length_set, hl]; omega) | omega | rfl)) only [sL, h0])), (by (simp (disch := (first | (simp only [List.length_set, hl]; omega) | omega | rfl)) only [sL, h1])), v2, c2⟩
    | false =>
      rw [hb] at c1
      have e1 : wOpt false (beTo (IntKind.u32.wrap mode) 4) = beTo (if false = true then 1 else 0) 4 := by simp [wOpt, wTr]
      rw [e1, Bool.false_and, Bool.or_false]
      refine Wp.cond_false (by first | ((simp (disch := (first | (simp only [List.length_set, hl]; omega) | omega | rfl)) only [sL, aEval_tmp, hb]); done) | ((simp (disch := (first | (simp only [List.length_set, hl]; omega) | omega | rfl)) only [sL, aEval_tmp, hb]); rfl)) ?_
      repeat (first | (with_reducible refine Wp.st ?_; simp only [wS]) | with_reducible refine Wp.drawS (by decide +kernel) ?_ | simp (disch := (first | (simp only [List.length_set, hl]; omega) | omega | rfl)) only [walkA, walkB, bne_self_eq_false, beq_self_eq_true, Option.map_some, Option.map_none, reduceIte, decide_true, decide_false, Int.reduceLT, Int.reduceLE, Int.reduceMul, Int.reduceAdd, Int.reduceSub, h0, h1])
      exact ⟨rfl, by simp [hl], (by (simp (disch := (first | (simp only [List.length_set, hl]; omega) | omega | rfl)) only [sL, h0])), (by (simp (disch := (first | (simp only [List.length_set, hl]; omega) | omega | rfl)) only [sL, h1])), v1, by simpa using c1⟩
  have hb1 : (bs ++ wOpt hm (beTo (IntKind.u32.wrap mode) 4)).length ≤ 500000000 + 12 * 1 := by have := hb0; have w := wOpt_len hm (l := beTo (IntKind.u32.wrap mode) 4) (by rw [beTo_length]; decide); simp only [List.length_append] at this ⊢; omega
  clear h0 h1 hl c c1 hA
  clear env
  intro ax env h q
  obtain ⟨hax, hl, h0, h1, wv, c⟩ := q
  rw [hax]
  clear hax
  repeat (first | (with_reducible refine Wp.st ?_; simp only [wS]) | with_reducible refine Wp.drawS (by decide +kernel) ?_ | simp (disch := (first | (simp only [List.length_set, hl]; omega) | omega | rfl)) only [walkA, walkB, bne_self_eq_false, beq_self_eq_true, Option.map_some, Option.map_none, reduceIte, decide_true, decide_false, Int.reduceLT, Int.reduceLE, Int.reduceMul, Int.reduceAdd, Int.reduceSub, h0, h1, faS1])
  refine (truthW_am Z H0 _ kc kw _ _ _ L kt cs T (o + 1) hu c k1 (by have := hb1; omega)).mono ?_
  intro v hA q
  rw [q.1]
  obtain ⟨v1, c1⟩ := q.2
  clear q
  repeat (first | (with_reducible refine Wp.st ?_; simp only [wS]) | with_reducible refine Wp.drawS (by decide +kernel) ?_ | simp (disch := (first | (simp only [List.length_set, hl]; omega) | omega | rfl)) only [walkA, walkB, bne_self_eq_false, beq_self_eq_true, Option.map_some, Option.map_none, reduceIte, decide_true, decide_false, Int.reduceLT, Int.reduceLE, Int.reduceMul, Int.reduceAdd, Int.reduceSub, h0, h1])
  refine Wp.mono (Q := WQS kc kt o fun h' => ∃ v', CW Z H0 h' kc kw v' (bs ++ wOpt hm (beTo (IntKind.u32.wrap mode) 4) ++ wOpt hu (beTo uid 4)) (bad || (hm && badIn 0 4294967295 mode)) ((kt, cs, T) :: L)) ?_ ?_
  · cases hb : hu with
    | true =>
      rw [hb] at c1
      have e1 : wOpt true (beTo uid 4) = beTo (if true = true then 1 else 0) 4 ++ beTo uid 4 := rfl
      rw [e1, ← List.append_assoc]
      refine Wp.cond_true (by first | ((simp (disch := (first | (simp only [List.length_set, hl]; omega) | omega | rfl)) only [sL, aEval_tmp, hb]); done) | ((simp (disch := (first | (simp only [List.length_set, hl]; omega) | omega | rfl)) only [sL, aEval_tmp, hb]); rfl)) ?_
      repeat (first | (with_reducible refine Wp.st ?_; simp only [wS]) | with_reducible refine Wp.drawS (by decide +kernel) ?_ | simp (disch := (first | (simp only [List.length_set, hl]; omega) | omega | rfl)) only [walkA, walkB, bne_self_eq_false, beq_self_eq_true, Option.map_some, Option.map_none, reduceIte, decide_true, decide_false, Int.reduceLT, Int.reduceLE, Int.reduceMul, Int.reduceAdd, Int.reduceSub, h0, h1, faS5, bp32])
      refine (u32W1 Z H0 _ kc kw v1 _ _ L kt cs T (o + 5) uid c1 k5 u1 u2 (by rw [List.length_append, beTo_length]; have := hb1; omega)).mono ?_
      intro v hB q
      rw [q.1]
      obtain ⟨v2, c2⟩ := q.2
      clear q
      repeat (first | (with_reducible refine Wp.st ?_; simp only [wS]) | with_reducible refine Wp.drawS (by decide +kernel) ?_ | simp (disch := (first | (simp only [List.length_set, hl]; omega) | omega | rfl)) only [walkA, walkB, bne_self_eq_false, beq_self_eq_true, Option.map_some, Option.map_none, reduceIte, decide_true, decide_false, Int.reduceLT, Int.reduceLE, Int.reduceMul, Int.reduceAdd, Int.reduceSub, h0, h1])
      exact ⟨rfl, by simp [hl], (by (simp (disch := (first | (simp only [List.length_set, hl]; omega) | omega | rfl)) only [sL, h0])), (by (simp (disch := (first | (simp only [List.length_set, hl]; omega) | omega | rfl)) only [sL, h1])), v2, c2⟩
    | false =>
      rw [hb] at c1
      have e1 : wOpt false (beTo uid 4) = beTo (if false = true then 1 else 0) 4 := by simp [wOpt, wTr]
      rw [e1]
      refine Wp.cond_false (by first | ((simp (disch := (first | (simp only [List.length_set, hl]; omega) | omega | rfl)) only [sL, aEval_tmp, hb]); done) | ((simp (disch := (first | (simp only [List.length_set, hl]; omega) | omega | rfl)) only [sL, aEval_tmp, hb]); rfl)) ?_
      repeat (first | (with_reducible refine Wp.st ?_; simp only [wS]) | with_reducible refine Wp.drawS (by decide +kernel) ?_ | simp (disch := (first | (simp only [List.length_set, hl]; omega) | omega | rfl)) only [walkA, walkB, bne_self_eq_false, beq_self_eq_true, Option.map_some, Option.map_none, reduceIte, decide_true, decide_false, Int.reduceLT, Int.reduceLE, Int.reduceMul, Int.reduceAdd, Int.reduceSub, h0, h1])
      exact ⟨rfl, by simp [hl], (by (simp (disch := (first | (simp only [List.length_set, hl]; omega) | omega | rfl)) only [sL, h0])), (by (simp (disch := (first | (simp only [List.length_set, hl]; omega) | omega | rfl)) only [sL, h1])), v1, by simpa using c1⟩
  have hb2 : (bs ++ wOpt hm (beTo (IntKind.u32.wrap mode) 4) ++ wOpt hu (beTo uid 4)).length ≤ 500000000 + 12 * 2 := by have := hb1; have w := wOpt_len hu (l := beTo uid 4) (by rw [beTo_length]; decide); simp only [List.length_append] at this ⊢; omega
  clear h0 h1 hl c c1 hA
  clear env
  intro ax env h q
  obtain ⟨hax, hl, h0, h1, wv, c⟩ := q
  rw [hax]
  clear hax
  repeat (first | (with_reducible refine Wp.st ?_; simp only [wS]) | with_reducible refine Wp.drawS (by decide +kernel) ?_ | simp (disch := (first | (simp only [List.length_set, hl]; omega) | omega | rfl)) only [walkA, walkB, bne_self_eq_false, beq_self_eq_true, Option.map_some, Option.map_none, reduceIte, decide_true, decide_false, Int.reduceLT, Int.reduceLE, Int.reduceMul, Int.reduceAdd, Int.reduceSub, h0, h1, faS2])
  refine (truthW_am Z H0 _ kc kw _ _ _ L kt cs T (o + 2) hg c k2 (by have := hb2; omega)).mono ?_
  intro v hA q
  rw [q.1]
  obtain ⟨v1, c1⟩ := q.2
  clear q
  repeat (first | (with_reducible refine Wp.st ?_; simp only [wS]) | with_reducible refine Wp.drawS (by decide +kernel) ?_ | simp (disch := (first | (simp only [List.length_set, hl]; omega) | omega | rfl)) only [walkA, walkB, bne_self_eq_false, beq_self_eq_true, Option.map_some, Option.map_none, reduceIte, decide_true, decide_false, Int.reduceLT, Int.reduceLE, Int.reduceMul, Int.reduceAdd, Int.reduceSub, h0, h1])
  refine Wp.mono (Q := WQS kc kt o fun h' => ∃ v', CW Z H0 h' kc kw v' (bs ++ wOpt hm (beTo (IntKind.u32.wrap mode) 4) ++ wOpt hu (beTo uid 4) ++ wOpt hg (beTo gid 4)) (bad || (hm && badIn 0 4294967295 mode)) ((kt, cs, T) :: L)) ?_ ?_
  · cases hb : hg with
    | true =>
      rw [hb] at c1
      have e1 : wOpt true (beTo gid 4) = beTo (if true = true then 1 else 0) 4 ++ beTo gid 4 := rfl
      rw [e1, ← List.append_assoc]
      refine Wp.cond_true (by first | ((simp (disch := (first | (simp only [List.length_set, hl]; omega) | omega | rfl)) only [sL, aEval_tmp, hb]); done) | ((simp (disch := (first | (simp only [List.length_set, hl]; omega) | omega | rfl)) only [sL, aEval_tmp, hb]); rfl)) ?_
      repeat (first | (with_reducible refine Wp.st ?_; simp only [wS]) | with_reducible refine Wp.drawS (by decide +kernel) ?_ | simp (disch := (first | (simp only [List.length_set, hl]; omega) | omega | rfl)) only [walkA, walkB, bne_self_eq_false, beq_self_eq_true, Option.map_some, Option.map_none, reduceIte, decide_true, decide_false, Int.reduceLT, Int.reduceLE, Int.reduceMul, Int.reduceAdd, Int.reduceSub, h0, h1, faS6, bp32])
      refine (u32W1 Z H0 _ kc kw v1 _ _ L kt cs T (o + 6) gid c1 k6 g1 g2 (by rw [List.length_append, beTo_length]; have := hb2; omega)).mono ?_
      intro v hB q
      rw [q.1]
      obtain ⟨v2, c2⟩ := q.2
      clear q
      repeat (first | (with_reducible refine Wp.st ?_; simp only [wS]) | with_reducible refine Wp.drawS (by decide +kernel) ?_ | simp (disch := (first | (simp only [List.length_set, hl]; omega) | omega | rfl)) only [walkA, walkB, bne_self_eq_false, beq_self_eq_true, Option.map_some, Option.map_none, reduceIte, decide_true, decide_false, Int.reduceLT, Int.reduceLE, Int.reduceMul, Int.reduceAdd, Int.reduceSub, h0, h1])
      exact ⟨rfl, by simp [hl], (by (simp (disch := (first | (simp only [List.length_set, hl]; omega) | omega | rfl)) only [sL, h0])), (by (simp (disch := (first | (simp only [List.length_set, hl]; omega) | omega | rfl)) only [sL, h1])), v2, c2⟩
    | false =>
      rw [hb] at c1
      have e1 : wOpt false (beTo gid 4) = beTo (if false = true then 1 else 0) 4 := by simp [wOpt, wTr]
      rw [e1]
      refine Wp.cond_false (by first | ((simp (disch := (first | (simp only [List.length_set, hl]; omega) | omega | rfl)) only [sL, aEval_tmp, hb]); done) | ((simp (disch := (first | (simp only [List.length_set, hl]; omega) | omega | rfl)) only [sL, aEval_tmp, hb]); rfl)) ?_
      repeat (first | (with_reducible refine Wp.st ?_; simp only [wS]) | with_reducible refine Wp.drawS (by decide +kernel) ?_ | simp (disch := (first | (simp only [List.length_set, hl]; omega) | omega | rfl)) only [walkA, walkB, bne_self_eq_false, beq_self_eq_true, Option.map_some, Option.map_none, reduceIte, decide_true, decide_false, Int.reduceLT, Int.reduceLE, Int.reduceMul, Int.reduceAdd, Int.reduceSub, h0, h1])
      exact ⟨rfl, by simp [hl], (by (simp (disch := (first | (simp only [List.length_set, hl]; omega) | omega | rfl)) only [sL, h0])), (by (simp (disch := (first | (simp only [List.length_set, hl]; omega) | omega | rfl)) only [sL, h1])), v1, by simpa using c1⟩
  have hb3 : (bs ++ wOpt hm (beTo (IntKind.u32.wrap mode) 4) ++ wOpt hu (beTo uid 4) ++ wOpt hg (beTo gid 4)).length ≤ 500000000 + 12 * 3 := by have := hb2; have w := wOpt_len hg (l := beTo gid 4) (by rw [beTo_length]; decide); simp only [List.length_append] at this ⊢; omega
  clear h0 h1 hl c c1 hA
  clear env
  intro ax env h q
  obtain ⟨hax, hl, h0, h1, wv, c⟩ := q
  rw [hax]
  clear hax
  repeat (first | (with_reducible refine Wp.st ?_; simp only [wS]) | with_reducible refine Wp.drawS (by decide +kernel) ?_ | simp (disch := (first | (simp only [List.length_set, hl]; omega) | omega | rfl)) only [walkA, walkB, bne_self_eq_false, beq_self_eq_true, Option.map_some, Option.map_none, reduceIte, decide_true, decide_false, Int.reduceLT, Int.reduceLE, Int.reduceMul, Int.reduceAdd, Int.reduceSub, h0, h1, faS3])
  refine (truthW_am Z H0 _ kc kw _ _ _ L kt cs T (o + 3) hz c k3 (by have := hb3; omega)).mono ?_
  intro v hA q
  rw [q.1]
  obtain ⟨v1, c1⟩ := q.2
  clear q
  repeat (first | (with_reducible refine Wp.st ?_; simp only [wS]) | with_reducible refine Wp.drawS (by decide +kernel) ?_ | simp (disch := (first | (simp only [List.length_set, hl]; omega) | omega | rfl)) only [walkA, walkB, bne_self_eq_false, beq_self_eq_true, Option.map_some, Option.map_none, reduceIte, decide_true, decide_false, Int.reduceLT, Int.reduceLE, Int.reduceMul, Int.reduceAdd, Int.reduceSub, h0, h1])
  refine Wp.mono (Q := WQS kc kt o fun h' => ∃ v', CW Z H0 h' kc kw v' (bs ++ wOpt hm (beTo (IntKind.u32.wrap mode) 4) ++ wOpt hu (beTo uid 4) ++ wOpt hg (beTo gid 4) ++ wOpt hz (beTo size 8)) (bad || (hm && badIn 0 4294967295 mode)) ((kt, cs, T) :: L)) ?_ ?_
  · cases hb : hz with
    | true =>
      rw [hb] at c1
      have e1 : wOpt true (beTo size 8) = beTo (if true = true then 1 else 0) 4 ++ beTo size 8 := rfl
      rw [e1, ← List.append_assoc]
      refine Wp.cond_true (by first | ((simp (disch := (first | (simp only [List.length_set, hl]; omega) | omega | rfl)) only [sL, aEval_tmp, hb]); done) | ((simp (disch := (first | (simp only [List.length_set, hl]; omega) | omega | rfl)) only [sL, aEval_tmp, hb]); rfl)) ?_
      repeat (first | (with_reducible refine Wp.st ?_; simp only [wS]) | with_reducible refine Wp.drawS (by decide +kernel) ?_ | simp (disch := (first | (simp only [List.length_set, hl]; omega) | omega | rfl)) only [walkA, walkB, bne_self_eq_false, beq_self_eq_true, Option.map_some, Option.map_none, reduceIte, decide_true, decide_false, Int.reduceLT, Int.reduceLE, Int.reduceMul, Int.reduceAdd, Int.reduceSub, h0, h1, faS7, bp64])
      refine (u64W1 Z H0 _ kc kw v1 _ _ L kt cs T (o + 7) size c1 k7 (by rw [List.length_append, beTo_length]; have := hb3; omega)).mono ?_
      intro v hB q
      rw [q.1]
      obtain ⟨v2, c2⟩ := q.2
      clear q
      repeat (first | (with_reducible refine Wp.st ?_; simp only [wS]) | with_reducible refine Wp.drawS (by decide +kernel) ?_ | simp (disch := (first | (simp only [List.length_set, hl]; omega) | omega | rfl)) only [walkA, walkB, bne_self_eq_false, beq_self_eq_true, Option.map_some, Option.map_none, reduceIte, decide_true, decide_false, Int.reduceLT, Int.reduceLE, Int.reduceMul, Int.reduceAdd, Int.reduceSub, h0, h1])
      exact ⟨rfl, by simp [hl], (by (simp (disch := (first | (simp only [List.length_set, hl]; omega) | omega | rfl)) only [sL, h0])), (by (simp (disch := (first | (simp only [List.length_set, hl]; omega) | omega | rfl)) only [sL, h1])), v2, c2⟩
    | false =>
      rw [hb] at c1
      have e1 : wOpt false (beTo size 8) = beTo (if false = true then 1 else 0) 4 := by simp [wOpt, wTr]
      rw [e1]
      refine Wp.cond_false (by first | ((simp (disch := (first | (simp only [List.length_set, hl]; omega) | omega | rfl)) only [sL, aEval_tmp, hb]); done) | ((simp (disch := (first | (simp only [List.length_set, hl]; omega) | omega | rfl)) only [sL, aEval_tmp, hb]); rfl)) ?_
      repeat (first | (with_reducible refine Wp.st ?_; simp only [wS]) | with_reducible refine Wp.drawS (by decide +kernel) ?_ | simp (disch := (first | (simp only [List.length_set, hl]; omega) | omega | rfl)) only [walkA, walkB, bne_self_eq_false, beq_self_eq_true, Option.map_some, Option.map_none, reduceIte, decide_true, decide_false, Int.reduceLT, Int.reduceLE, Int.reduceMul, Int.reduceAdd, Int.reduceSub, h0, h1])
      exact ⟨rfl, by simp [hl], (by (simp (disch := (first | (simp only [List.length_set, hl]; omega) | omega | rfl)) only [sL, h0])), (by (simp (disch := (first | (simp only [List.length_set, hl]; omega) | omega | rfl)) only [sL, h1])), v1, by simpa using c1⟩
  have hb4 : (bs ++ wOpt hm (beTo (IntKind.u32.wrap mode) 4) ++ wOpt hu (beTo uid 4) ++ wOpt hg (beTo gid 4) ++ wOpt hz (beTo size 8)).length ≤ 500000000 + 12 * 4 := by have := hb3; have w := wOpt_len hz (l := beTo size 8) (by rw [beTo_length]; decide); simp only [List.length_append] at this ⊢; omega
  clear h0 h1 hl c c1 hA
  clear env
  intro ax env h q
  obtain ⟨hax, hl, h0, h1, wv, c⟩ := q
  rw [hax]
  clear hax
  repeat (first | (with_reducible refine Wp.st ?_; simp only [wS]) | with_reducible refine Wp.drawS (by decide +kernel) ?_ | simp (disch := (first | (simp only [List.length_set, hl]; omega) | omega | rfl)) only [walkA, walkB, bne_self_eq_false, beq_self_eq_true, Option.map_some, Option.map_none, reduceIte, decide_true, decide_false, Int.reduceLT, Int.reduceLE, Int.reduceMul, Int.reduceAdd, Int.reduceSub, h0, h1, faS8, faS10])
  refine (howW_am Z H0 _ kc kw wv _ _ L kt cs T (o + 8) (o + 10) ah a1 a2 c k8 k10 x1 x2 k11 x3 x4 (by omega)).mono ?_
  intro v hA q
  rw [q.1]
  obtain ⟨v1, c1⟩ := q.2
  clear q
  have j9 : (wHowC ah (o + 10) cs)[o + 9]? = some (.int .i64 mh) := by rw [wHowC_get (by omega) (by omega)]; exact k9
  have j12 : (wHowC ah (o + 10) cs)[o + 12]? = some (.int .u32 m1) := by rw [wHowC_get (by omega) (by omega)]; exact k12
  have j13 : (wHowC ah (o + 10) cs)[o + 12 + 1]? = some (.int .u32 m2) := by rw [wHowC_get (by omega) (by omega)]; exact k13
  repeat (first | (with_reducible refine Wp.st ?_; simp only [wS]) | with_reducible refine Wp.drawS (by decide +kernel) ?_ | simp (disch := (first | (simp only [List.length_set, hl]; omega) | omega | rfl)) only [walkA, walkB, bne_self_eq_false, beq_self_eq_true, Option.map_some, Option.map_none, reduceIte, decide_true, decide_false, Int.reduceLT, Int.reduceLE, Int.reduceMul, Int.reduceAdd, Int.reduceSub, h0, h1, faS9, faS11])
  refine (howW_am Z H0 _ kc kw v1 _ _ L kt _ T (o + 9) (o + 12) mh m1 m2 c1 j9 j12 y1 y2 j13 y3 y4 (by rw [List.length_append]; have := wHowB_len ah a1 a2; omega)).mono ?_
  intro v hB q
  rw [q.1]
  obtain ⟨v2, c2⟩ := q.2
  clear q
  repeat (first | (with_reducible refine Wp.st ?_; simp only [wS]) | with_reducible refine Wp.drawS (by decide +kernel) ?_ | simp (disch := (first | (simp only [List.length_set, hl]; omega) | omega | rfl)) only [walkA, walkB, bne_self_eq_false, beq_self_eq_true, Option.map_some, Option.map_none, reduceIte, decide_true, decide_false, Int.reduceLT, Int.reduceLE, Int.reduceMul, Int.reduceAdd, Int.reduceSub, h0])
  simp only [aRes_none Try.results52]
  refine ⟨trivial, v2, ?_⟩
  simpa [wSetB, wSetBad, wSetC, badIn, Bool.or_assoc] using c2
end
end Go.Proofs.Ytanknjpcgceccaa

namespace Go.Proofs.Ytanknjpcgceccaa
open Go Go.AM
set_option linter.unusedSimpArgs false
set_option maxRecDepth 100000
theorem intsOf_str : ∀ l : List UInt8, intsOf (l.map fun b => Value.int .u8 b.toNat) = some (l.map fun b => (b.toNat : Int))
  | [] => rfl
  | b :: l => by simp only [List.map_cons, intsOf, intsOf_str l]
theorem strS_str (s : ByteArray) : strS (strB s) = s := by
  unfold strS strB
  rw [intsOf_str]
  show strOfNums _ = s
  unfold strOfNums
  rw [List.map_map]
  have : (s.data.toList.map ((fun n : Int => UInt8.ofNat n.toNat) ∘ fun b : UInt8 => (b.toNat : Int))) = s.data.toList := by
    conv => rhs; rw [← List.map_id s.data.toList]
    exact List.map_congr_left fun b _ => by simp
  rw [this]
theorem isB_str (s : ByteArray) : isB (strB s) := ⟨_, intsOf_str _⟩
theorem cvBack (s : ByteArray) (h : Heap) (v : Value) (r : Row h v (strB s)) : aConv Try.prog h 22 9 v = some (.string s, h) := by
  rw [conv_row r (isB_str s), strS_str]
structure AR where
  file : ByteArray
  to : ByteArray
  name : ByteArray
  toName : ByteArray
  path : ByteArray
  set : SA
  guard : Bool
  g1 : Int
  g2 : Int
  access : Int
  offset : Int
  count : Int
  stable : Int
  mode : Int
  type : Int
  dv : Value
  data : List Value
  verf : Int
  cookie : Int
  cookieVerf : Int
  dirCount : Int
  maxCount : Int
  spec1 : Int
  spec2 : Int
def AR.cells (a : AR) : List Value :=
  [.string a.file, .string a.to, .string a.name, .string a.toName, .string a.path] ++ a.set.cells ++
  [.bool a.guard, .int .u32 a.g1, .int .u32 a.g2, .int .u32 a.access, .int .u64 a.offset, .int .u32 a.count, .int .i64 a.stable, .int .i64 a.mode, .int .i64 a.type, a.dv, .int .u64 a.verf, .int .u64 a.cookie, .int .u64 a.cookieVerf, .int .u32 a.dirCount, .int .u32 a.maxCount, .int .u32 a.spec1, .int .u32 a.spec2]
structure WS where
  bs : List Value
  bad : Bool
def wU32 (n : Int) (x : WS) : WS := ⟨x.bs ++ beTo n 4, x.bad⟩
def wU64 (n : Int) (x : WS) : WS := ⟨x.bs ++ beTo n 8, x.bad⟩
def wBool (b : Bool) (x : WS) : WS := ⟨x.bs ++ wTr b, x.bad⟩
def wNum (a b n : Int) (x : WS) : WS := ⟨x.bs ++ beTo (IntKind.u32.wrap n) 4, x.bad || badIn a b n⟩
def wRow (most : Int) (l : List Value) (x : WS) : WS := ⟨x.bs ++ (beTo l.length 4 ++ (l ++ padB l.length)), x.bad || !(decide ((l.length : Int) ≤ most))⟩
def wText (most : Int) (s : ByteArray) (x : WS) : WS := ⟨x.bs ++ (beTo s.size 4 ++ (strB s ++ padB s.size)), x.bad || !(decide ((s.size : Int) ≤ most))⟩
def wSet (s : SA) (x : WS) : WS := ⟨x.bs ++ wSetB s, x.bad || wSetBad s⟩
end Go.Proofs.Ytanknjpcgceccaa

namespace Go.Proofs.Ytanknjpcgceccaa
open Go Go.AM
set_option linter.unusedSimpArgs false
set_option maxRecDepth 100000
attribute [local irreducible] WOps WV WH WSt WNil WPick WGd
def CWS (Z : Nat → Prop) (H0 h : Heap) (kc kw : Nat) (x : WS) (kt : Nat) (cs : List Value) (T : TypeId) (L : List Blk) : Prop := ∃ wv, CW Z H0 h kc kw wv x.bs x.bad ((kt, cs, T) :: L)
def small9 (x : WS) : Prop := x.bs.length ≤ 9000000
section
variable {Z : Nat → Prop} {H0 h : Heap} {kc kw : Nat} {x : WS} {L : List Blk} {kt : Nat} {cs : List Value} {T : TypeId}
theorem CWS.ld {t : TypeId} {d : TypeDesc} (c : CWS Z H0 h kc kw x kt cs T L) (hu : Try.prog.underlying t = some d) (h1 : ∀ fs, d ≠ .struct fs) (h2 : ∀ n e, d ≠ .array n e) (o : Nat) : aLoad Try.prog h t (pt kt o) = cs[o]? := by
  obtain ⟨wv, c⟩ := c
  exact CW.ld c hu h1 h2 o
theorem CWS.lw (c : CWS Z H0 h kc kw x kt cs T L) : aLoad Try.prog h 67 (.pointer (some ⟨kc, 0 + 1, none⟩)) = some (pt kw 0) := by
  obtain ⟨wv, c⟩ := c
  exact CW.lw c
theorem textWS {o : Nat} {most : Int} {s0 : ByteArray} (c : CWS Z H0 h kc kw x kt cs T L) (hv : cs[o]? = some (.string s0)) (hs0 : s0.size ≤ 2000000) (hl : small9 x) :
    Cl Try.prog 51 [pt kc 0, pt kt o, .int .i64 most] h fun v h' => v = .tuple #[] ∧ CWS Z H0 h' kc kw (wText most s0 x) kt cs T L := by
  obtain ⟨wv, c⟩ := c
  exact textW_am Z H0 h kc kw wv _ _ L kt cs T o most s0 c hv hs0 hl (cvBack s0)
theorem numWS {o : Nat} {a b v0 : Int} (c : CWS Z H0 h kc kw x kt cs T L) (hv : cs[o]? = some (.int .i64 v0)) (hl : small9 x) :
    Cl Try.prog 57 [pt kc 0, pt kt o, .int .i64 a, .int .i64 b] h fun v h' => v = .tuple #[] ∧ CWS Z H0 h' kc kw (wNum a b v0 x) kt cs T L := by
  obtain ⟨wv, c⟩ := c
  exact numW_am Z H0 h kc kw wv _ _ L kt cs T o a b v0 c hv (Nat.le_trans hl (by decide))
theorem truthWS {o : Nat} {b : Bool} (c : CWS Z H0 h kc kw x kt cs T L) (hv : cs[o]? = some (.bool b)) (hl : small9 x) :
    Cl Try.prog 53 [pt kc 0, pt kt o] h fun v h' => v = .bool b ∧ CWS Z H0 h' kc kw (wBool b x) kt cs T L := by
  obtain ⟨wv, c⟩ := c
  exact truthW_am Z H0 h kc kw wv _ _ L kt cs T o b c hv (Nat.le_trans hl (by decide))
theorem u32WS1 {o : Nat} {n : Int} (c : CWS Z H0 h kc kw x kt cs T L) (hv : cs[o]? = some (.int .u32 n)) (hn : u32r n) (hl : small9 x) :
    Cl Try.prog 55 [pt kc 0, .slice (some ⟨h.next, 0, none⟩) 1 1] (h.push (.cells [pt kt o] 123 false)) fun v h' => v = .tuple #[] ∧ CWS Z H0 h' kc kw (wU32 n x) kt cs T L := by
  obtain ⟨wv, c⟩ := c
  exact u32W1 Z H0 h kc kw wv _ _ L kt cs T o n c hv hn.1 hn.2 (Nat.le_trans hl (by decide))
theorem u64WS1 {o : Nat} {n : Int} (c : CWS Z H0 h kc kw x kt cs T L) (hv : cs[o]? = some (.int .u64 n)) (hl : small9 x) :
    Cl Try.prog 56 [pt kc 0, .slice (some ⟨h.next, 0, none⟩) 1 1] (h.push (.cells [pt kt o] 125 false)) fun v h' => v = .tuple #[] ∧ CWS Z H0 h' kc kw (wU64 n x) kt cs T L := by
  obtain ⟨wv, c⟩ := c
  exact u64W1 Z H0 h kc kw wv _ _ L kt cs T o n c hv (Nat.le_trans hl (by decide))
theorem u32WS2 {o p : Nat} {n m : Int} (c : CWS Z H0 h kc kw x kt cs T L) (hv : cs[o]? = some (.int .u32 n)) (hn : u32r n) (hv2 : cs[p]? = some (.int .u32 m)) (hm : u32r m) (hl : small9 x) :
    Cl Try.prog 55 [pt kc 0, .slice (some ⟨h.next, 0, none⟩) 2 2] (h.push (.cells [pt kt o, pt kt p] 123 false)) fun v h' => v = .tuple #[] ∧ CWS Z H0 h' kc kw (wU32 m (wU32 n x)) kt cs T L := by
  obtain ⟨wv, c⟩ := c
  refine (u32W2 Z H0 h kc kw wv _ _ L kt cs T o p n m c hv hn.1 hn.2 hv2 hm.1 hm.2 (Nat.le_trans hl (by decide))).mono fun v h' q => ⟨q.1, ?_⟩
  obtain ⟨v', c'⟩ := q.2
  exact ⟨v', by simpa [wU32] using c'⟩
theorem u64WS2 {o p : Nat} {n m : Int} (c : CWS Z H0 h kc kw x kt cs T L) (hv : cs[o]? = some (.int .u64 n)) (hv2 : cs[p]? = some (.int .u64 m)) (hl : small9 x) :
    Cl Try.prog 56 [pt kc 0, .slice (some ⟨h.next, 0, none⟩) 2 2] (h.push (.cells [pt kt o, pt kt p] 125 false)) fun v h' => v = .tuple #[] ∧ CWS Z H0 h' kc kw (wU64 m (wU64 n x)) kt cs T L := by
  obtain ⟨wv, c⟩ := c
  refine (u64W2 Z H0 h kc kw wv _ _ L kt cs T o p n m c hv hv2 (Nat.le_trans hl (by decide))).mono fun v h' q => ⟨q.1, ?_⟩
  obtain ⟨v', c'⟩ := q.2
  exact ⟨v', by simpa [wU64] using c'⟩
theorem timeWS {o : Nat} {n m : Int} (c : CWS Z H0 h kc kw x kt cs T L) (hv : cs[o]? = some (.int .u32 n)) (hn : u32r n) (hv2 : cs[o + 1]? = some (.int .u32 m)) (hm : u32r m) (hl : small9 x) :
    Cl Try.prog 54 [pt kc 0, pt kt o] h fun v h' => v = .tuple #[] ∧ CWS Z H0 h' kc kw (wU32 m (wU32 n x)) kt cs T L := by
  obtain ⟨wv, c⟩ := c
  refine (timeW_am Z H0 h kc kw wv _ _ L kt cs T o n m c hv hn.1 hn.2 hv2 hm.1 hm.2 (Nat.le_trans hl (by decide))).mono fun v h' q => ⟨q.1, ?_⟩
  obtain ⟨v', c'⟩ := q.2
  exact ⟨v', by simpa [wU32] using c'⟩
theorem setWS {o : Nat} {s : SA} (hs : s.OK) (c : CWS Z H0 h kc kw x kt cs T L) (hv : ∀ i, i < 14 → cs[o + i]? = s.cells[i]?) (hl : small9 x) :
    Cl Try.prog 52 [pt kc 0, pt kt o] h fun v h' => v = .tuple #[] ∧ CWS Z H0 h' kc kw (wSet s x) kt (wSetC s o cs) T L := by
  obtain ⟨wv, c⟩ := c
  exact setW_am Z H0 h kc kw wv _ _ L kt cs T o s hs c hv (Nat.le_trans hl (by decide))
end
end Go.Proofs.Ytanknjpcgceccaa

namespace Go.Proofs.Ytanknjpcgceccaa
open Go Go.AM
set_option linter.unusedSimpArgs false
set_option maxRecDepth 100000
attribute [local irreducible] WOps WV WH WSt WNil WPick WGd
def Sm (n : Nat) (x : WS) : Prop := x.bs.length ≤ n * 31000
section
variable {n : Nat} {x : WS}
theorem Sm.s9 (h : Sm 29 x) : small9 x := by unfold Sm at h; unfold small9; omega
theorem Sm.le {m : Nat} (h : Sm n x) (hn : n ≤ m) : Sm m x := by unfold Sm at *; omega
theorem padB_le (k : Nat) : (padB k).length ≤ 3 := by rw [padB_length]; unfold pad; omega
theorem sm_u32 {v : Int} (h : Sm n x) : Sm (n + 1) (wU32 v x) := by
  unfold Sm at *; simp only [wU32, List.length_append, beTo_length]; omega
theorem sm_u64 {v : Int} (h : Sm n x) : Sm (n + 1) (wU64 v x) := by
  unfold Sm at *; simp only [wU64, List.length_append, beTo_length]; omega
theorem sm_bool {b : Bool} (h : Sm n x) : Sm (n + 1) (wBool b x) := by
  unfold Sm at *; simp only [wBool, wTr, List.length_append, beTo_length]; omega
theorem sm_num {a b v : Int} (h : Sm n x) : Sm (n + 1) (wNum a b v x) := by
  unfold Sm at *; simp only [wNum, List.length_append, beTo_length]; omega
theorem sm_text {m : Int} {s : ByteArray} (hs : s.size ≤ 30000) (h : Sm n x) : Sm (n + 1) (wText m s x) := by
  unfold Sm at *
  have := padB_le s.size
  simp only [wText, List.length_append, beTo_length, strB_len]; omega
theorem sm_row {m : Int} {l : List Value} (hs : l.length ≤ 30000) (h : Sm n x) : Sm (n + 1) (wRow m l x) := by
  unfold Sm at *
  have := padB_le l.length
  simp only [wRow, List.length_append, beTo_length]; omega
theorem sm_set {s : SA} (h : Sm n x) : Sm (n + 1) (wSet s x) := by
  unfold Sm at *
  have h1 := wOpt_len s.hm (l := beTo (IntKind.u32.wrap s.mode) 4) (by rw [beTo_length]; omega)
  have h2 := wOpt_len s.hu (l := beTo s.uid 4) (by rw [beTo_length]; omega)
  have h3 := wOpt_len s.hg (l := beTo s.gid 4) (by rw [beTo_length]; omega)
  have h4 := wOpt_len s.hs (l := beTo s.size 8) (by rw [beTo_length]; omega)
  have h5 := wHowB_len s.ah s.a1 s.a2
  have h6 := wHowB_len s.mh s.m1 s.m2
  simp only [wSet, wSetB, List.length_append]; omega
end
theorem wSetC_get {s : SA} {o p : Nat} {cs : List Value} (h : p < o + 10 ∨ o + 14 ≤ p) : (wSetC s o cs)[p]? = cs[p]? := by
  unfold wSetC; rw [wHowC_get (by omega) (by omega), wHowC_get (by omega) (by omega)]
structure AR.OK (a : AR) : Prop where
  set : a.set.OK
  g1 : u32r a.g1
  g2 : u32r a.g2
  access : u32r a.access
  count : u32r a.count
  dirCount : u32r a.dirCount
  maxCount : u32r a.maxCount
  spec1 : u32r a.spec1
  spec2 : u32r a.spec2
  file : a.file.size ≤ 30000
  to : a.to.size ≤ 30000
  name : a.name.size ≤ 30000
  toName : a.toName.size ≤ 30000
  path : a.path.size ≤ 30000
  data : a.data.length ≤ 30000
  dOne : a.data.all Value.oneCell' = true
  dSl : ∃ b n c, a.dv = .slice b n c
def wNamed (p : Int) (a : AR) (x : WS) : WS :=
  if p = 8 then (if a.mode = 2 then wU64 a.verf (wNum 0 2 a.mode x) else wSet a.set (wNum 0 2 a.mode x))
  else if p = 9 then wSet a.set x
  else if p = 10 then wText 1024 a.path (wSet a.set x)
  else if p = 11 then (if a.type = 3 ∨ a.type = 4 then wU32 a.spec2 (wU32 a.spec1 (wSet a.set (wNum 1 7 a.type x))) else if a.type = 6 ∨ a.type = 7 then wSet a.set (wNum 1 7 a.type x) else wNum 1 7 a.type x)
  else if p = 14 then wText 255 a.toName (wText 64 a.to x)
  else x
section
variable {Z : Nat → Prop} {H0 h : Heap} {kc kw : Nat} {x : WS} {L : List Blk} {kt : Nat} {T : TypeId} {a : AR}
theorem CWS.ldI {cs : List Value} (c : CWS Z H0 h kc kw x kt cs T L) (o : Nat) : aLoad Try.prog h 3 (pt kt o) = cs[o]? := c.ld Try.underlying3 (by simp) (by simp) o
theorem CWS.dat {cs : List Value} {dv : Value} {ds : List Value} (r : Row H0 dv ds) (hz : ∀ a n c, dv = .slice (some a) n c → n ≠ 0 → Z a.block) : ∀ h' v' bs' b' L', CW Z H0 h' kc kw v' bs' b' (L' ++ (kt, cs, T) :: L) → Off h' v' kw dv ds := fun h' v' bs' b' L' c =>
  ⟨c.st.stayed r hz, fun a n d e hn => ⟨fun hh => hh.elim (fun e2 => c.st.off _ (List.mem_cons_self) (by rw [← e2]; exact hz a n d e hn)) (fun hb => (c.off _ hb).2.1 (hz a n d e hn)), Nat.lt_of_lt_of_le (c.st.low _ (hz a n d e hn)) c.st.nx⟩⟩
theorem rowWS {o : Nat} {most : Int} {dv : Value} {xs cs : List Value} (c : CWS Z H0 h kc kw x kt cs T L) (hv : cs[o]? = some dv) (hsl : ∃ a n c, dv = .slice a n c) (r : Row H0 dv xs) (hz : ∀ a n c, dv = .slice (some a) n c → n ≠ 0 → Z a.block)
    (hx1 : xs.all Value.oneCell' = true) (hxl : xs.length ≤ 2000000) (hl : small9 x) :
    Cl Try.prog 58 [pt kc 0, pt kt o, .int .i64 most] h fun v h' => v = .tuple #[] ∧ CWS Z H0 h' kc kw (wRow most xs x) kt cs T L := by
  obtain ⟨wv, c⟩ := c
  exact rowW_am Z H0 h kc kw wv _ _ L kt cs T o most dv xs c hv hsl (CWS.dat r hz) hx1 hxl hl
def CWE (Z : Nat → Prop) (H0 h : Heap) (kc kw : Nat) (x : WS) (kt : Nat) (T : TypeId) (L : List Blk) : Prop := ∃ cs', CWS Z H0 h kc kw x kt cs' T L
theorem CWE.of {cs : List Value} {y : WS} (c : CWS Z H0 h kc kw x kt cs T L) (e : y = x) : CWE Z H0 h kc kw y kt T L := ⟨cs, by rw [e]; exact c⟩
theorem aI25 : a.cells[25]? = some (.int .i64 a.stable) := rfl
theorem aI26 : a.cells[26]? = some (.int .i64 a.mode) := rfl
theorem aI27 : a.cells[27]? = some (.int .i64 a.type) := rfl
theorem setHV : ∀ i, i < 14 → a.cells[5 + i]? = a.set.cells[i]? := by
  intro i hi
  have : i = 0 ∨ i = 1 ∨ i = 2 ∨ i = 3 ∨ i = 4 ∨ i = 5 ∨ i = 6 ∨ i = 7 ∨ i = 8 ∨ i = 9 ∨ i = 10 ∨ i = 11 ∨ i = 12 ∨ i = 13 := (by omega)
  rcases this with rfl | rfl | rfl | rfl | rfl | rfl | rfl | rfl | rfl | rfl | rfl | rfl | rfl | rfl <;> rfl
set_option maxHeartbeats 4000000 in
theorem namedW_am {n : Nat} (p : Int) (hp : p = 3 ∨ p = 8 ∨ p = 9 ∨ p = 10 ∨ p = 11 ∨ p = 12 ∨ p = 13 ∨ p = 14) (hok : a.OK) (sm : Sm n x) (hn : n ≤ 20) (c : CWS Z H0 h kc kw x kt a.cells T L) :
    Cl Try.prog 59 [pt kc 0, .int .i64 p, pt kt 0] h fun v h' => v = .tuple #[] ∧ CWE Z H0 h' kc kw (wNamed p a x) kt T L := by
  refine Cl.enter Try.func59 rfl _ Try.ntmps59 (by simp) ?_
  intro env hl ha
  have h0 : sl env 0 = pt kc 0 := ha 0 (by simp)
  have h1 : sl env 1 = .int .i64 p := ha 1 (by simp)
  have h2 : sl env 2 = pt kt 0 := ha 2 (by simp)
  clear ha
  have ha_g1 := hok.g1
  have ha_g2 := hok.g2
  have ha_access := hok.access
  have ha_count := hok.count
  have ha_dirCount := hok.dirCount
  have ha_maxCount := hok.maxCount
  have ha_spec1 := hok.spec1
  have ha_spec2 := hok.spec2
  have ha_dSl := hok.dSl
  have ha_dOne := hok.dOne
  have hb_file := Nat.le_trans hok.file (show 30000 ≤ 2000000 by decide)
  have hc_file := hok.file
  have hb_to := Nat.le_trans hok.to (show 30000 ≤ 2000000 by decide)
  have hc_to := hok.to
  have hb_name := Nat.le_trans hok.name (show 30000 ≤ 2000000 by decide)
  have hc_name := hok.name
  have hb_toName := Nat.le_trans hok.toName (show 30000 ≤ 2000000 by decide)
  have hc_toName := hok.toName
  have hb_path := Nat.le_trans hok.path (show 30000 ≤ 2000000 by decide)
  have hc_path := hok.path
  have hb_data := Nat.le_trans hok.data (show 30000 ≤ 2000000 by decide)
  have hc_data := hok.data
  rcases hp with rfl | rfl | rfl | rfl | rfl | rfl | rfl | rfl
  all_goals repeat' (first | (with_reducible refine Wp.st ?_; simp only [wS]) | with_reducible refine Wp.drawS (by decide +kernel) ?_ | (refine Wp.cond_true ?_ ?_; focus ((simp (disch := (first | (simp only [List.length_set, hl]; omega) | omega | rfl)) only [sL, aEval_tmp]); done)) | (refine Wp.cond_false ?_ ?_; focus ((simp (disch := (first | (simp only [List.length_set, hl]; omega) | omega | rfl)) only [sL, aEval_tmp]); done)) | ((with_reducible apply Cl.mono (textWS c ?g0 ?g1 ?g2)); (case g0 => (first | (rw [wSetC_get (by decide)]; rfl) | rfl)); (case g1 => (assumption)); (case g2 => ((refine Sm.s9 ?_; (repeat (with_reducible first | refine sm_text (by assumption) ?_ | refine sm_u32 ?_ | refine sm_u64 ?_ | refine sm_num ?_ | refine sm_set ?_ | refine sm_bool ?_ | refine sm_row (by assumption) ?_)); exact Sm.le sm (by omega)))); intro v ha q; (try rw [q.1]); replace c := q.2; clear q) | ((with_reducible apply Cl.mono (numWS c ?g0 ?g1)); (case g0 => (first | (rw [wSetC_get (by decide)]; rfl) | rfl)); (case g1 => ((refine Sm.s9 ?_; (repeat (with_reducible first | refine sm_text (by assumption) ?_ | refine sm_u32 ?_ | refine sm_u64 ?_ | refine sm_num ?_ | refine sm_set ?_ | refine sm_bool ?_ | refine sm_row (by assumption) ?_)); exact Sm.le sm (by omega)))); intro v ha q; (try rw [q.1]); replace c := q.2; clear q) | ((with_reducible apply Cl.mono (truthWS c ?g0 ?g1)); (case g0 => (first | (rw [wSetC_get (by decide)]; rfl) | rfl)); (case g1 => ((refine Sm.s9 ?_; (repeat (with_reducible first | refine sm_text (by assumption) ?_ | refine sm_u32 ?_ | refine sm_u64 ?_ | refine sm_num ?_ | refine sm_set ?_ | refine sm_bool ?_ | refine sm_row (by assumption) ?_)); exact Sm.le sm (by omega)))); intro v ha q; (try rw [q.1]); replace c := q.2; clear q) | ((with_reducible apply Cl.mono (u32WS1 c ?g0 ?g1 ?g2)); (case g0 => (first | (rw [wSetC_get (by decide)]; rfl) | rfl)); (case g1 => (assumption)); (case g2 => ((refine Sm.s9 ?_; (repeat (with_reducible first | refine sm_text (by assumption) ?_ | refine sm_u32 ?_ | refine sm_u64 ?_ | refine sm_num ?_ | refine sm_set ?_ | refine sm_bool ?_ | refine sm_row (by assumption) ?_)); exact Sm.le sm (by omega)))); intro v ha q; (try rw [q.1]); replace c := q.2; clear q) | ((with_reducible apply Cl.mono (u64WS1 c ?g0 ?g1)); (case g0 => (first | (rw [wSetC_get (by decide)]; rfl) | rfl)); (case g1 => ((refine Sm.s9 ?_; (repeat (with_reducible first | refine sm_text (by assumption) ?_ | refine sm_u32 ?_ | refine sm_u64 ?_ | refine sm_num ?_ | refine sm_set ?_ | refine sm_bool ?_ | refine sm_row (by assumption) ?_)); exact Sm.le sm (by omega)))); intro v ha q; (try rw [q.1]); replace c := q.2; clear q) | ((with_reducible apply Cl.mono (u32WS2 c ?g0 ?g1 ?g2 ?g3 ?g4)); (case g0 => (first | (rw [wSetC_get (by decide)]; rfl) | rfl)); (case g1 => (assumption)); (case g2 => (first | (rw [wSetC_get (by decide)]; rfl) | rfl)); (case g3 => (assumption)); (case g4 => ((refine Sm.s9 ?_; (repeat (with_reducible first | refine sm_text (by assumption) ?_ | refine sm_u32 ?_ | refine sm_u64 ?_ | refine sm_num ?_ | refine sm_set ?_ | refine sm_bool ?_ | refine sm_row (by assumption) ?_)); exact Sm.le sm (by omega)))); intro v ha q; (try rw [q.1]); replace c := q.2; clear q) | ((with_reducible apply Cl.mono (u64WS2 c ?g0 ?g1 ?g2)); (case g0 => (first | (rw [wSetC_get (by decide)]; rfl) | rfl)); (case g1 => (first | (rw [wSetC_get (by decide)]; rfl) | rfl)); (case g2 => ((refine Sm.s9 ?_; (repeat (with_reducible first | refine sm_text (by assumption) ?_ | refine sm_u32 ?_ | refine sm_u64 ?_ | refine sm_num ?_ | refine sm_set ?_ | refine sm_bool ?_ | refine sm_row (by assumption) ?_)); exact Sm.le sm (by omega)))); intro v ha q; (try rw [q.1]); replace c := q.2; clear q) | ((with_reducible apply Cl.mono (timeWS c ?g0 ?g1 ?g2 ?g3 ?g4)); (case g0 => (first | (rw [wSetC_get (by decide)]; rfl) | rfl)); (case g1 => (assumption)); (case g2 => (first | (rw [wSetC_get (by decide)]; rfl) | rfl)); (case g3 => (assumption)); (case g4 => ((refine Sm.s9 ?_; (repeat (with_reducible first | refine sm_text (by assumption) ?_ | refine sm_u32 ?_ | refine sm_u64 ?_ | refine sm_num ?_ | refine sm_set ?_ | refine sm_bool ?_ | refine sm_row (by assumption) ?_)); exact Sm.le sm (by omega)))); intro v ha q; (try rw [q.1]); replace c := q.2; clear q) | ((with_reducible apply Cl.mono (setWS (s := a.set) hok.set c setHV ?g0)); (case g0 => ((refine Sm.s9 ?_; (repeat (with_reducible first | refine sm_text (by assumption) ?_ | refine sm_u32 ?_ | refine sm_u64 ?_ | refine sm_num ?_ | refine sm_set ?_ | refine sm_bool ?_ | refine sm_row (by assumption) ?_)); exact Sm.le sm (by omega)))); intro v ha q; (try rw [q.1]); replace c := q.2; clear q) | simp (disch := (first | (simp only [List.length_set, hl]; omega) | omega | rfl)) only [walkA, walkB, bne_self_eq_false, beq_self_eq_true, Option.map_some, Option.map_none, reduceIte, decide_true, decide_false, Int.reduceLT, Int.reduceLE, Int.reduceMul, Int.reduceAdd, Int.reduceSub, h0, h1, h2, faA0, faA1, faA2, faA3, faA4, faA5, faA6, faA7, faA8, faA9, faA10, faA11, faA12, faA13, faA14, faA15, faA16, faA17, faA18, faA19, faA20, faA21, bp32, bp64, bp32', bp64', c.ldI, aI25, aI26, aI27, wSetC_get , Int.reduceBEq, Int.reduceBNe, Int.reduceGT, Int.reduceGE, Nat.reduceAdd] | ((refine Wp.cond' ⟨_, by (simp (disch := (first | (simp only [List.length_set, hl]; omega) | omega | rfl)) only [sl_eq, sl_ne, aEval_tmp]; rfl), ?_, ?_⟩ <;> intro hb <;> (try simp only [beq_iff_eq, bne_iff_ne, ne_eq, decide_eq_true_eq, decide_eq_false_iff_not, beq_eq_false_iff_ne, bne_eq_false_iff_eq, Bool.not_eq_true', Bool.not_eq_false'] at hb) <;> (try (exfalso; omega)))))
  all_goals simp only [aRes_none Try.results59]
  all_goals (try simp only [true_and])
  all_goals refine CWE.of c ?_
  all_goals unfold wNamed
  all_goals repeat' (first | rfl | (exfalso; omega) | split)
def wArgs (p : Int) (a : AR) (x : WS) : WS :=
  if p = 0 ∨ p = 100 ∨ p = 102 ∨ p = 104 ∨ p = 105 then x
  else if p = 101 ∨ p = 103 then wText 1024 a.path x
  else if p = 2 then (if a.guard = true then wU32 a.g2 (wU32 a.g1 (wBool a.guard (wSet a.set (wText 64 a.file x)))) else wBool a.guard (wSet a.set (wText 64 a.file x)))
  else if p = 4 then wU32 a.access (wText 64 a.file x)
  else if p = 6 ∨ p = 21 then wU32 a.count (wU64 a.offset (wText 64 a.file x))
  else if p = 7 then wRow 8192 a.data (wNum 0 2 a.stable (wU32 a.count (wU64 a.offset (wText 64 a.file x))))
  else if p = 15 then wText 255 a.toName (wText 64 a.to (wText 64 a.file x))
  else if p = 16 then wU32 a.count (wU64 a.cookieVerf (wU64 a.cookie (wText 64 a.file x)))
  else if p = 17 then wU32 a.maxCount (wU32 a.dirCount (wU64 a.cookieVerf (wU64 a.cookie (wText 64 a.file x))))
  else if p = 3 ∨ (8 ≤ p ∧ p ≤ 14) then wNamed p a (wText 255 a.name (wText 64 a.file x))
  else wText 64 a.file x
theorem CWE.of' {y : WS} (c : CWE Z H0 h kc kw x kt T L) (e : y = x) : CWE Z H0 h kc kw y kt T L := by rw [e]; exact c
set_option maxHeartbeats 8000000 in
theorem argsW_am {n : Nat} (p : Int) (hp : there p = true) (hok : a.OK) (sm : Sm n x) (hn : n ≤ 10) (r : Row H0 a.dv a.data) (hz : ∀ b n c, a.dv = .slice (some b) n c → n ≠ 0 → Z b.block) (c : CWS Z H0 h kc kw x kt a.cells T L) :
    Cl Try.prog 22 [pt kc 0, .int .i64 p, pt kt 0] h fun v h' => v = .tuple #[] ∧ CWE Z H0 h' kc kw (wArgs p a x) kt T L := by
  refine Cl.enter Try.func22 rfl _ Try.ntmps22 (by simp) ?_
  intro env hl ha
  have h0 : sl env 0 = pt kc 0 := ha 0 (by simp)
  have h1 : sl env 1 = .int .i64 p := ha 1 (by simp)
  have h2 : sl env 2 = pt kt 0 := ha 2 (by simp)
  clear ha
  have ha_g1 := hok.g1
  have ha_g2 := hok.g2
  have ha_access := hok.access
  have ha_count := hok.count
  have ha_dirCount := hok.dirCount
  have ha_maxCount := hok.maxCount
  have ha_spec1 := hok.spec1
  have ha_spec2 := hok.spec2
  have ha_dSl := hok.dSl
  have ha_dOne := hok.dOne
  have hb_file := Nat.le_trans hok.file (show 30000 ≤ 2000000 by decide)
  have hc_file := hok.file
  have hb_to := Nat.le_trans hok.to (show 30000 ≤ 2000000 by decide)
  have hc_to := hok.to
  have hb_name := Nat.le_trans hok.name (show 30000 ≤ 2000000 by decide)
  have hc_name := hok.name
  have hb_toName := Nat.le_trans hok.toName (show 30000 ≤ 2000000 by decide)
  have hc_toName := hok.toName
  have hb_path := Nat.le_trans hok.path (show 30000 ≤ 2000000 by decide)
  have hc_path := hok.path
  have hb_data := Nat.le_trans hok.data (show 30000 ≤ 2000000 by decide)
  have hc_data := hok.data
  have hp := there_cases hp
  all_goals rcases hp with rfl | rfl | rfl | rfl | rfl | rfl | rfl | rfl | rfl | rfl | rfl | rfl | rfl | rfl | rfl | rfl | rfl | rfl | rfl | rfl | rfl | rfl | rfl | rfl | rfl | rfl | rfl | rfl
  all_goals repeat' (first | (with_reducible refine Wp.st ?_; simp only [wS]) | with_reducible refine Wp.drawS (by decide +kernel) ?_ | (refine Wp.cond_true ?_ ?_; focus ((simp (disch := (first | (simp only [List.length_set, hl]; omega) | omega | rfl)) only [sL, aEval_tmp]); done)) | (refine Wp.cond_false ?_ ?_; focus ((simp (disch := (first | (simp only [List.length_set, hl]; omega) | omega | rfl)) only [sL, aEval_tmp]); done)) | ((with_reducible apply Cl.mono (namedW_am (n := 12) _ ?g0 hok ?g1 (by decide) c)); (case g0 => (decide)); (case g1 => (((repeat (with_reducible first | refine sm_text (by assumption) ?_)); exact Sm.le sm hn))); intro v ha q; (try rw [q.1]); replace c := q.2; clear q) | ((with_reducible apply Cl.mono (rowWS (xs := a.data) c ?g0 ha_dSl r hz ha_dOne hb_data ?g1)); (case g0 => (first | (rw [wSetC_get (by decide)]; rfl) | rfl)); (case g1 => ((refine Sm.s9 ?_; (repeat (with_reducible first | refine sm_text (by assumption) ?_ | refine sm_u32 ?_ | refine sm_u64 ?_ | refine sm_num ?_ | refine sm_set ?_ | refine sm_bool ?_ | refine sm_row (by assumption) ?_)); exact Sm.le sm (by omega)))); intro v ha q; (try rw [q.1]); replace c := q.2; clear q) | ((with_reducible apply Cl.mono (textWS c ?g0 ?g1 ?g2)); (case g0 => (first | (rw [wSetC_get (by decide)]; rfl) | rfl)); (case g1 => (assumption)); (case g2 => ((refine Sm.s9 ?_; (repeat (with_reducible first | refine sm_text (by assumption) ?_ | refine sm_u32 ?_ | refine sm_u64 ?_ | refine sm_num ?_ | refine sm_set ?_ | refine sm_bool ?_ | refine sm_row (by assumption) ?_)); exact Sm.le sm (by omega)))); intro v ha q; (try rw [q.1]); replace c := q.2; clear q) | ((with_reducible apply Cl.mono (numWS c ?g0 ?g1)); (case g0 => (first | (rw [wSetC_get (by decide)]; rfl) | rfl)); (case g1 => ((refine Sm.s9 ?_; (repeat (with_reducible first | refine sm_text (by assumption) ?_ | refine sm_u32 ?_ | refine sm_u64 ?_ | refine sm_num ?_ | refine sm_set ?_ | refine sm_bool ?_ | refine sm_row (by assumption) ?_)); exact Sm.le sm (by omega)))); intro v ha q; (try rw [q.1]); replace c := q.2; clear q) | ((with_reducible apply Cl.mono (truthWS c ?g0 ?g1)); (case g0 => (first | (rw [wSetC_get (by decide)]; rfl) | rfl)); (case g1 => ((refine Sm.s9 ?_; (repeat (with_reducible first | refine sm_text (by assumption) ?_ | refine sm_u32 ?_ | refine sm_u64 ?_ | refine sm_num ?_ | refine sm_set ?_ | refine sm_bool ?_ | refine sm_row (by assumption) ?_)); exact Sm.le sm (by omega)))); intro v ha q; (try rw [q.1]); replace c := q.2; clear q) | ((with_reducible apply Cl.mono (u32WS1 c ?g0 ?g1 ?g2)); (case g0 => (first | (rw [wSetC_get (by decide)]; rfl) | rfl)); (case g1 => (assumption)); (case g2 => ((refine Sm.s9 ?_; (repeat (with_reducible first | refine sm_text (by assumption) ?_ | refine sm_u32 ?_ | refine sm_u64 ?_ | refine sm_num ?_ | refine sm_set ?_ | refine sm_bool ?_ | refine sm_row (by assumption) ?_)); exact Sm.le sm (by omega)))); intro v ha q; (try rw [q.1]); replace c := q.2; clear q) | ((with_reducible apply Cl.mono (u64WS1 c ?g0 ?g1)); (case g0 => (first | (rw [wSetC_get (by decide)]; rfl) | rfl)); (case g1 => ((refine Sm.s9 ?_; (repeat (with_reducible first | refine sm_text (by assumption) ?_ | refine sm_u32 ?_ | refine sm_u64 ?_ | refine sm_num ?_ | refine sm_set ?_ | refine sm_bool ?_ | refine sm_row (by assumption) ?_)); exact Sm.le sm (by omega)))); intro v ha q; (try rw [q.1]); replace c := q.2; clear q) | ((with_reducible apply Cl.mono (u32WS2 c ?g0 ?g1 ?g2 ?g3 ?g4)); (case g0 => (first | (rw [wSetC_get (by decide)]; rfl) | rfl)); (case g1 => (assumption)); (case g2 => (first | (rw [wSetC_get (by decide)]; rfl) | rfl)); (case g3 => (assumption)); (case g4 => ((refine Sm.s9 ?_; (repeat (with_reducible first | refine sm_text (by assumption) ?_ | refine sm_u32 ?_ | refine sm_u64 ?_ | refine sm_num ?_ | refine sm_set ?_ | refine sm_bool ?_ | refine sm_row (by assumption) ?_)); exact Sm.le sm (by omega)))); intro v ha q; (try rw [q.1]); replace c := q.2; clear q) | ((with_reducible apply Cl.mono (u64WS2 c ?g0 ?g1 ?g2)); (case g0 => (first | (rw [wSetC_get (by decide)]; rfl) | rfl)); (case g1 => (first | (rw [wSetC_get (by decide)]; rfl) | rfl)); (case g2 => ((refine Sm.s9 ?_; (repeat (with_reducible first | refine sm_text (by assumption) ?_ | refine sm_u32 ?_ | refine sm_u64 ?_ | refine sm_num ?_ | refine sm_set ?_ | refine sm_bool ?_ | refine sm_row (by assumption) ?_)); exact Sm.le sm (by omega)))); intro v ha q; (try rw [q.1]); replace c := q.2; clear q) | ((with_reducible apply Cl.mono (timeWS c ?g0 ?g1 ?g2 ?g3 ?g4)); (case g0 => (first | (rw [wSetC_get (by decide)]; rfl) | rfl)); (case g1 => (assumption)); (case g2 => (first | (rw [wSetC_get (by decide)]; rfl) | rfl)); (case g3 => (assumption)); (case g4 => ((refine Sm.s9 ?_; (repeat (with_reducible first | refine sm_text (by assumption) ?_ | refine sm_u32 ?_ | refine sm_u64 ?_ | refine sm_num ?_ | refine sm_set ?_ | refine sm_bool ?_ | refine sm_row (by assumption) ?_)); exact Sm.le sm (by omega)))); intro v ha q; (try rw [q.1]); replace c := q.2; clear q) | ((with_reducible apply Cl.mono (setWS (s := a.set) hok.set c setHV ?g0)); (case g0 => ((refine Sm.s9 ?_; (repeat (with_reducible first | refine sm_text (by assumption) ?_ | refine sm_u32 ?_ | refine sm_u64 ?_ | refine sm_num ?_ | refine sm_set ?_ | refine sm_bool ?_ | refine sm_row (by assumption) ?_)); exact Sm.le sm (by omega)))); intro v ha q; (try rw [q.1]); replace c := q.2; clear q) | simp (disch := (first | (simp only [List.length_set, hl]; omega) | omega | rfl)) only [walkA, walkB, bne_self_eq_false, beq_self_eq_true, Option.map_some, Option.map_none, reduceIte, decide_true, decide_false, Int.reduceLT, Int.reduceLE, Int.reduceMul, Int.reduceAdd, Int.reduceSub, h0, h1, h2, faA0, faA1, faA2, faA3, faA4, faA5, faA6, faA7, faA8, faA9, faA10, faA11, faA12, faA13, faA14, faA15, faA16, faA17, faA18, faA19, faA20, faA21, bp32, bp64, bp32', bp64', c.ldI, aI25, aI26, aI27, wSetC_get , Int.reduceBEq, Int.reduceBNe, Int.reduceGT, Int.reduceGE, Nat.reduceAdd] | ((refine Wp.cond' ⟨_, by (simp (disch := (first | (simp only [List.length_set, hl]; omega) | omega | rfl)) only [sl_eq, sl_ne, aEval_tmp]; rfl), ?_, ?_⟩ <;> intro hb <;> (try simp only [beq_iff_eq, bne_iff_ne, ne_eq, decide_eq_true_eq, decide_eq_false_iff_not, beq_eq_false_iff_ne, bne_eq_false_iff_eq, Bool.not_eq_true', Bool.not_eq_false'] at hb) <;> (try (exfalso; omega)))))
  all_goals simp only [aRes_none Try.results22]
  all_goals (try simp only [true_and])
  all_goals first | refine CWE.of c ?_ | refine CWE.of' c ?_
  all_goals unfold wArgs
  all_goals repeat' (first | rfl | (exfalso; first | omega | contradiction | (simp_all; done)) | split)
end
end Go.Proofs.Ytanknjpcgceccaa

namespace Go.Proofs.Ytanknjpcgceccaa
open Go Go.AM
set_option linter.unusedSimpArgs false
set_option maxRecDepth 100000
attribute [local irreducible] WOps WV WH WSt WNil WPick WGd
def wrArgs (p : Int) (a : AR) : List Value × Int :=
  if there p = true then (if (wArgs p a ⟨[], false⟩).bad = true then ([], 33) else ((wArgs p a ⟨[], false⟩).bs, 0)) else ([], 36)
def OutV (h h' : Heap) (bv : Value) (bs : List Value) : Prop := Buf h' 5 bv bs ∧ Same h h' noS ∧ (∀ j, bufBlk bv j → h.next ≤ j) ∧ bs.all Value.oneCell' = true
theorem AR.one (a : AR) (hok : a.OK) : a.cells.all Value.oneCell' = true := by
  obtain ⟨b, n, c, e⟩ := hok.dSl
  simp [AR.cells, SA.cells, Value.oneCell', e]
theorem bCoderW {a : Addr} : aBuild Try.prog 69 [(1, .pointer (some a))] = some (.agg #[.pointer none, .pointer (some a), .bool false]) := by kernel_rfl
theorem xCoderW {h : Heap} {a : Addr} : aBox h 69 (.agg #[.pointer none, .pointer (some a), .bool false]) = some (pt h.next 0, h.push (.cells [.pointer none, .pointer (some a), .bool false] TC false)) := by kernel_rfl
theorem nilBuf (j : Nat) : ¬ bufBlk (.slice none 0 0) j := by rintro ⟨o, m, d, hh⟩; cases hh
section
variable {Z : Nat → Prop} {H0 h : Heap} {L : List Blk}
theorem CWS.new {kt : Nat} {cs : List Value} {T : TypeId} (s : St Z H0 h ((kt, cs, T) :: L)) :
    CWS Z H0 ((h.push (.cells [.slice none 0 0] TWp false)).push (.cells [.pointer none, pt h.next 0, .bool false] TC false)) (h.push (.cells [.slice none 0 0] TWp false)).next h.next ⟨[], false⟩ kt cs T L :=
  ⟨.slice none 0 0, WB.alloc (⟨s.push _ _, .inl ⟨rfl, rfl⟩, fun j hj => (nilBuf j hj).elim, rfl⟩ : WB Z H0 _ h.next TWp (.slice none 0 0) [] ((kt, cs, T) :: L)) _ _⟩
end
theorem wNamed_sm {n : Nat} {p : Int} {a : AR} {x : WS} (hok : a.OK) (h : Sm n x) : Sm (n + 4) (wNamed p a x) := by
  have h1 := hok.path; have h2 := hok.to; have h3 := hok.toName
  unfold wNamed
  repeat' split
  all_goals (repeat (with_reducible first | exact h | refine sm_text (by assumption) ?_ | refine sm_row (by assumption) ?_ | refine sm_u32 ?_ | refine sm_u64 ?_ | refine sm_num ?_ | refine sm_bool ?_ | refine sm_set ?_))
  all_goals exact h.le (by omega)
theorem wArgs_sm {n : Nat} {p : Int} {a : AR} {x : WS} (hok : a.OK) (h : Sm n x) : Sm (n + 8) (wArgs p a x) := by
  have h1 := hok.path; have h2 := hok.to; have h3 := hok.toName; have h4 := hok.file; have h5 := hok.name; have h6 := hok.data
  unfold wArgs
  repeat' split
  all_goals (repeat (with_reducible first | exact h | refine wNamed_sm hok ?_ | refine sm_text (by assumption) ?_ | refine sm_row (by assumption) ?_ | refine sm_u32 ?_ | refine sm_u64 ?_ | refine sm_num ?_ | refine sm_bool ?_ | refine sm_set ?_))
  all_goals exact h.le (by omega)
theorem wArgs_len {n : Nat} {p : Int} {a : AR} {x : WS} (hok : a.OK) (h : Sm n x) : (wArgs p a x).bs.length ≤ (n + 8) * 31000 := wArgs_sm hok h
set_option maxHeartbeats 1000000 in
theorem writeArgs_am (p : Int) (a : AR) (hok : a.OK) (h : Heap) (r : Row h a.dv a.data) :
    Cl Try.prog 12 [.int .i64 p, .agg a.cells.toArray] h fun v h' => ∃ bv, v = .tuple #[bv, .int .i64 (wrArgs p a).2] ∧ OutV h h' bv (wrArgs p a).1 := by
  refine Cl.enter Try.func12 rfl _ Try.ntmps12 (by simp) ?_
  intro env hl ha
  have h0 : sl env 0 = .int .i64 p := ha 0 (by simp)
  have h1 : sl env 1 = .agg a.cells.toArray := ha 1 (by simp)
  clear ha
  have s0 := (St.nil (fun j => j < h.next) h (fun _ x => x)).push a.cells TA
  have xb : aBox h 30 (.agg a.cells.toArray) = some (pt h.next 0, h.push (.cells a.cells TA false)) := by
    have := a.one hok
    simp [aBox, aNew, Value.cells, this]
  have keep : ∀ {h5 : Heap} {L : List Blk}, St (fun j => j < h.next) h h5 L → Same h h5 noS := fun q => ⟨q.nx, fun j e he _ => q.stay j e he (Heap.get_lt he)⟩
  repeat (first | (with_reducible refine Wp.st ?_; simp only [wS]) | with_reducible refine Wp.drawS (by decide +kernel) ?_ | simp (disch := (first | (simp only [List.length_set, hl]; omega) | omega | rfl)) only [walkA, walkB, bne_self_eq_false, beq_self_eq_true, Option.map_some, Option.map_none, reduceIte, decide_true, decide_false, Int.reduceLT, Int.reduceLE, Int.reduceMul, Int.reduceAdd, Int.reduceSub, h0, h1, xb])
  refine Cl.pure (is_am p _) ?_
  cases hp : there p with
  | false =>
    have e : wrArgs p a = ([], 36) := by unfold wrArgs; rw [if_neg (by simp [hp])]
    repeat (first | (with_reducible refine Wp.st ?_; simp only [wS]) | with_reducible refine Wp.drawS (by decide +kernel) ?_ | simp (disch := (first | (simp only [List.length_set, hl]; omega) | omega | rfl)) only [walkA, walkB, bne_self_eq_false, beq_self_eq_true, Option.map_some, Option.map_none, reduceIte, decide_true, decide_false, Int.reduceLT, Int.reduceLE, Int.reduceMul, Int.reduceAdd, Int.reduceSub, h0, h1])
    refine Wp.cond_true (by first | ((simp (disch := (first | (simp only [List.length_set, hl]; omega) | omega | rfl)) only [sL, aEval_tmp]); done) | ((simp (disch := (first | (simp only [List.length_set, hl]; omega) | omega | rfl)) only [sL, aEval_tmp]); rfl)) ?_
    repeat (first | (with_reducible refine Wp.st ?_; simp only [wS]) | with_reducible refine Wp.drawS (by decide +kernel) ?_ | simp (disch := (first | (simp only [List.length_set, hl]; omega) | omega | rfl)) only [walkA, walkB, bne_self_eq_false, beq_self_eq_true, Option.map_some, Option.map_none, reduceIte, decide_true, decide_false, Int.reduceLT, Int.reduceLE, Int.reduceMul, Int.reduceAdd, Int.reduceSub, h0, h1])
    simp (disch := (first | (simp only [List.length_set, hl]; omega) | omega | rfl)) only [aRes_two Try.results12, sL]
    rw [e]
    exact ⟨_, rfl, .inl ⟨rfl, rfl⟩, keep s0, fun j hj => (nilBuf j hj).elim, rfl⟩
  | true =>
    have e : wrArgs p a = if (wArgs p a ⟨[], false⟩).bad = true then ([], 33) else ((wArgs p a ⟨[], false⟩).bs, 0) := by unfold wrArgs; rw [if_pos hp]
    have c := CWS.new s0
    generalize h.push (.cells a.cells TA false) = h2 at c
    repeat (first | (with_reducible refine Wp.st ?_; simp only [wS]) | with_reducible refine Wp.drawS (by decide +kernel) ?_ | simp (disch := (first | (simp only [List.length_set, hl]; omega) | omega | rfl)) only [walkA, walkB, bne_self_eq_false, beq_self_eq_true, Option.map_some, Option.map_none, reduceIte, decide_true, decide_false, Int.reduceLT, Int.reduceLE, Int.reduceMul, Int.reduceAdd, Int.reduceSub, h0, h1])
    refine Wp.cond_false (by first | ((simp (disch := (first | (simp only [List.length_set, hl]; omega) | omega | rfl)) only [sL, aEval_tmp]); done) | ((simp (disch := (first | (simp only [List.length_set, hl]; omega) | omega | rfl)) only [sL, aEval_tmp]); rfl)) ?_
    repeat (first | (with_reducible refine Wp.st ?_; simp only [wS]) | with_reducible refine Wp.drawS (by decide +kernel) ?_ | simp (disch := (first | (simp only [List.length_set, hl]; omega) | omega | rfl)) only [walkA, walkB, bne_self_eq_false, beq_self_eq_true, Option.map_some, Option.map_none, reduceIte, decide_true, decide_false, Int.reduceLT, Int.reduceLE, Int.reduceMul, Int.reduceAdd, Int.reduceSub, h0, h1])
    refine (newWriter_am _).mono ?_
    intro v h3 q
    rw [q.1, q.2]
    clear q
    have xc := xCoderW (h := h2.push (.cells [.slice none 0 0] TWp false)) (a := ⟨h2.next, 0, none⟩)
    repeat (first | (with_reducible refine Wp.st ?_; simp only [wS]) | with_reducible refine Wp.drawS (by decide +kernel) ?_ | simp (disch := (first | (simp only [List.length_set, hl]; omega) | omega | rfl)) only [walkA, walkB, bne_self_eq_false, beq_self_eq_true, Option.map_some, Option.map_none, reduceIte, decide_true, decide_false, Int.reduceLT, Int.reduceLE, Int.reduceMul, Int.reduceAdd, Int.reduceSub, h0, h1, bCoderW, xc])
    refine (argsW_am (n := 0) p hp hok (by unfold Sm; simp) (by decide) r (fun b n d e hn => row_lt r b n d e hn) c).mono ?_
    intro v h4 q
    rw [q.1]
    obtain ⟨cs', wv, c4⟩ := q.2
    clear q
    have lb := c4.lb
    have lw := c4.lw
    have k4 := keep c4.st
    rw [e]
    cases hb : (wArgs p a ⟨[], false⟩).bad with
    | true =>
      rw [hb] at lb
      repeat (first | (with_reducible refine Wp.st ?_; simp only [wS]) | with_reducible refine Wp.drawS (by decide +kernel) ?_ | simp (disch := (first | (simp only [List.length_set, hl]; omega) | omega | rfl)) only [walkA, walkB, bne_self_eq_false, beq_self_eq_true, Option.map_some, Option.map_none, reduceIte, decide_true, decide_false, Int.reduceLT, Int.reduceLE, Int.reduceMul, Int.reduceAdd, Int.reduceSub, h0, h1, faC2, lb])
      refine Wp.cond_true (by first | ((simp (disch := (first | (simp only [List.length_set, hl]; omega) | omega | rfl)) only [sL, aEval_tmp]); done) | ((simp (disch := (first | (simp only [List.length_set, hl]; omega) | omega | rfl)) only [sL, aEval_tmp]); rfl)) ?_
      repeat (first | (with_reducible refine Wp.st ?_; simp only [wS]) | with_reducible refine Wp.drawS (by decide +kernel) ?_ | simp (disch := (first | (simp only [List.length_set, hl]; omega) | omega | rfl)) only [walkA, walkB, bne_self_eq_false, beq_self_eq_true, Option.map_some, Option.map_none, reduceIte, decide_true, decide_false, Int.reduceLT, Int.reduceLE, Int.reduceMul, Int.reduceAdd, Int.reduceSub, h0, h1])
      simp (disch := (first | (simp only [List.length_set, hl]; omega) | omega | rfl)) only [aRes_two Try.results12, sL]
      exact ⟨_, rfl, .inl ⟨rfl, rfl⟩, k4, fun j hj => (nilBuf j hj).elim, rfl⟩
    | false =>
      rw [hb] at lb
      repeat (first | (with_reducible refine Wp.st ?_; simp only [wS]) | with_reducible refine Wp.drawS (by decide +kernel) ?_ | simp (disch := (first | (simp only [List.length_set, hl]; omega) | omega | rfl)) only [walkA, walkB, bne_self_eq_false, beq_self_eq_true, Option.map_some, Option.map_none, reduceIte, decide_true, decide_false, Int.reduceLT, Int.reduceLE, Int.reduceMul, Int.reduceAdd, Int.reduceSub, h0, h1, faC2, lb])
      refine Wp.cond_false (by first | ((simp (disch := (first | (simp only [List.length_set, hl]; omega) | omega | rfl)) only [sL, aEval_tmp]); done) | ((simp (disch := (first | (simp only [List.length_set, hl]; omega) | omega | rfl)) only [sL, aEval_tmp]); rfl)) ?_
      repeat (first | (with_reducible refine Wp.st ?_; simp only [wS]) | with_reducible refine Wp.drawS (by decide +kernel) ?_ | simp (disch := (first | (simp only [List.length_set, hl]; omega) | omega | rfl)) only [walkA, walkB, bne_self_eq_false, beq_self_eq_true, Option.map_some, Option.map_none, reduceIte, decide_true, decide_false, Int.reduceLT, Int.reduceLE, Int.reduceMul, Int.reduceAdd, Int.reduceSub, h0, h1, faC1, lw])
      refine (done_am _ _ _ _ c4.wr c4.one (by have := wArgs_len (p := p) (a := a) (x := ⟨[], false⟩) hok (n := 0) (by unfold Sm; simp); omega)).mono ?_
      intro v h5 q
      repeat (first | (with_reducible refine Wp.st ?_; simp only [wS]) | with_reducible refine Wp.drawS (by decide +kernel) ?_ | simp (disch := (first | (simp only [List.length_set, hl]; omega) | omega | rfl)) only [walkA, walkB, bne_self_eq_false, beq_self_eq_true, Option.map_some, Option.map_none, reduceIte, decide_true, decide_false, Int.reduceLT, Int.reduceLE, Int.reduceMul, Int.reduceAdd, Int.reduceSub, h0, h1])
      simp (disch := (first | (simp only [List.length_set, hl]; omega) | omega | rfl)) only [aRes_two Try.results12, sL]
      exact ⟨_, rfl, q.1, k4.trans q.2.1 (fun _ x => x) (fun _ _ x => x), fun j hj => Nat.le_trans k4.1 (q.2.2 j hj), c4.one⟩
end Go.Proofs.Ytanknjpcgceccaa

namespace Go.Proofs.Ytanknjpcgceccaa
open Go Go.AM Go.RowKit Go.ChangeShapes
set_option linter.unusedSimpArgs false
set_option maxRecDepth 100000
theorem own_knob : ownKnob Try.prog.godebug = none := by kernel_rfl
theorem laid_out : laidOutB Try.prog = true := by kernel_rfl
theorem good : AM.Good Try.prog := AM.Good.of (by kernel_rfl)
structure AR.WF (a : AR) : Prop where
  set : a.set.OK
  g1 : u32r a.g1
  g2 : u32r a.g2
  access : u32r a.access
  count : u32r a.count
  dirCount : u32r a.dirCount
  maxCount : u32r a.maxCount
  spec1 : u32r a.spec1
  spec2 : u32r a.spec2
  dSl : ∃ b n c, a.dv = .slice b n c
  dStr : ∃ s, a.data = strB s
section
variable {H : Type} {h : Heap}
theorem row_len {v : Value} {vs : List Value} (r : Row h v vs) : ∃ a c, v = .slice a vs.length c := by
  rcases r with ⟨rfl, rfl⟩ | ⟨rfl, k, off, c, rfl⟩ | ⟨k, off, cap, cs, hl, ro, rfl, _⟩
  · exact ⟨_, _, rfl⟩
  · exact ⟨_, _, rfl⟩
  · exact ⟨_, _, rfl⟩
end
theorem AR.WF.ok {a : AR} (w : a.WF) (h1 : a.file.size + a.to.size + a.name.size + a.toName.size + a.path.size + a.data.length < 30000) : a.OK :=
  ⟨w.set, w.g1, w.g2, w.access, w.count, w.dirCount, w.maxCount, w.spec1, w.spec2, by omega, by omega, by omega, by omega, by omega, by omega, by obtain ⟨s, e⟩ := w.dStr; rw [e]; exact strB_one s, w.dSl⟩
end Go.Proofs.Ytanknjpcgceccaa

namespace Go.Proofs.Ytanknjpcgceccaa
open Go Go.AM
set_option linter.unusedSimpArgs false
set_option maxRecDepth 100000
attribute [local irreducible] WOps WV WH WSt WNil WPick WGd
section
variable {P : Program} {g : TypeId → Value → Value → Option Bool} {xs ys : Array Value} {f : Field} {fs : List Field}
theorem eqFs_step {a b : Value} {r s : Bool} (hn : f.name ≠ "_") (ha : aPart P f.type xs f.offset = some a) (hb : aPart P f.type ys f.offset = some b) (hg : g f.type a b = some r) (ih : eqFs g P xs ys fs = some s) : eqFs g P xs ys (f :: fs) = some (r && s) := by
  simp only [eqFs]
  rw [if_pos hn, ha, hb]
  simp only [hg]
  cases r
  · rfl
  · simp only [ih, Bool.true_and]
theorem aEqF_struct {d : Nat} {t : TypeId} {fs : Array Field} {r : Bool} (hu : P.underlying t = some (.struct fs)) (hs : P.stoodInHeld t = false) (he : eqFs (fun t a b => aEqF d P t a b) P xs ys fs.toList = some r) : aEqF (d + 1) P t (.agg xs) (.agg ys) = some r := by
  unfold aEqF
  rw [hu]
  simp only [hs, Bool.false_eq_true, if_false]
  exact he
theorem bin_struct {t : TypeId} {xo yo : Operand} {r : Bool} (hg : P.eqGuardType P.depth t = false) (he : aEqF 8 P t (.agg xs) (.agg ys) = some r) : aBin P .eql t xo yo (.agg xs) (.agg ys) = some (.bool r) ∧ aBin P .neq t xo yo (.agg xs) (.agg ys) = some (.bool (!r)) := by
  simp [aBin, hg, he]
theorem bin_str {t : TypeId} {xo yo : Operand} {a b : ByteArray} : aBin P .eql t xo yo (.string a) (.string b) = some (.bool (a.data.toList == b.data.toList)) := by simp [aBin, aStrBin]
end
theorem bin_boolE {xo yo : Operand} {a b : Bool} : aBin Try.prog .eql 4 xo yo (.bool a) (.bool b) = some (.bool (a == b)) := by simp [aBin, aEqF, Try.underlying4]
def eqT (a b c d : Int) : Bool := (a == c) && ((b == d) && true)
theorem st_time : Try.prog.stoodInHeld 26 = false := by kernel_rfl
theorem gd_time : Try.prog.eqGuardType Try.prog.depth 26 = false := by kernel_rfl
theorem eq_time (n : Nat) (a b c d : Int) : aEqF (n + 2) Try.prog 26 (.agg #[.int .u32 a, .int .u32 b]) (.agg #[.int .u32 c, .int .u32 d]) = some (eqT a b c d) :=
  aEqF_struct Try.underlying26 st_time (eqFs_step (by decide) rfl rfl rfl (eqFs_step (by decide) rfl rfl rfl rfl))
theorem bin_time {xo yo : Operand} {a b c d : Int} : aBin Try.prog .eql 26 xo yo (.agg #[.int .u32 a, .int .u32 b]) (.agg #[.int .u32 c, .int .u32 d]) = some (.bool (eqT a b c d)) := (bin_struct gd_time (eq_time 6 a b c d)).1
def SA.eq (s t : SA) : Bool := (s.hm == t.hm) && ((s.hu == t.hu) && ((s.hg == t.hg) && ((s.hs == t.hs) && ((s.mode == t.mode) && ((s.uid == t.uid) && ((s.gid == t.gid) && ((s.size == t.size) && ((s.ah == t.ah) && ((s.mh == t.mh) && (eqT s.a1 s.a2 t.a1 t.a2 && (eqT s.m1 s.m2 t.m1 t.m2 && true)))))))))))
theorem st_sattr : Try.prog.stoodInHeld 28 = false := by kernel_rfl
theorem gd_sattr : Try.prog.eqGuardType Try.prog.depth 28 = false := by kernel_rfl
theorem eq_sattr (n : Nat) (s t : SA) : aEqF (n + 3) Try.prog 28 (.agg s.cells.toArray) (.agg t.cells.toArray) = some (s.eq t) :=
  aEqF_struct Try.underlying28 st_sattr (eqFs_step (by decide) rfl rfl rfl (eqFs_step (by decide) rfl rfl rfl (eqFs_step (by decide) rfl rfl rfl (eqFs_step (by decide) rfl rfl rfl (eqFs_step (by decide) rfl rfl rfl (eqFs_step (by decide) rfl rfl rfl (eqFs_step (by decide) rfl rfl rfl (eqFs_step (by decide) rfl rfl rfl (eqFs_step (by decide) rfl rfl rfl (eqFs_step (by decide) rfl rfl rfl (eqFs_step (by decide) rfl rfl (eq_time _ _ _ _ _) (eqFs_step (by decide) rfl rfl (eq_time _ _ _ _ _) rfl))))))))))))
theorem bin_sattr {xo yo : Operand} {s t : SA} : aBin Try.prog .eql 28 xo yo (.agg s.cells.toArray) (.agg t.cells.toArray) = some (.bool (s.eq t)) := (bin_struct gd_sattr (eq_sattr 5 s t)).1
def AR.eq (a b : AR) : Bool := (a.file.data.toList == b.file.data.toList) && (a.to.data.toList == b.to.data.toList) && (a.name.data.toList == b.name.data.toList) && (a.toName.data.toList == b.toName.data.toList) && (a.path.data.toList == b.path.data.toList) && a.set.eq b.set && (a.guard == b.guard) && eqT a.g1 a.g2 b.g1 b.g2 && (a.access == b.access) && (a.offset == b.offset) && (a.count == b.count) && (a.stable == b.stable) && (a.mode == b.mode) && (a.type == b.type) && ((strS a.data).data.toList == (strS b.data).data.toList) && (a.verf == b.verf) && (a.cookie == b.cookie) && (a.cookieVerf == b.cookieVerf) && (a.dirCount == b.dirCount) && (a.maxCount == b.maxCount) && (a.spec1 == b.spec1) && (a.spec2 == b.spec2)
section
variable {h : Heap} {k : Nat} {a : AR} {T : TypeId}
theorem ldCell {t : TypeId} {d : TypeDesc} {cs : List Value} {o : Nat} {v : Value} (hg : h.get k = some (.cells cs T false)) (hu : Try.prog.underlying t = some d) (h1 : ∀ fs, d ≠ .struct fs) (h2 : ∀ n e, d ≠ .array n e) (hv : cs[o]? = some v) : aLoad Try.prog h t (pt k o) = some v := by rw [aLoad_at hu h1 h2 hg o, hv]
theorem ldAgg {t : TypeId} {i : TypeInfo} {fs : Array Field} {cs : List Value} {o : Nat} {v : List Value} (hg : h.get k = some (.cells cs T false)) (hu : Try.prog.underlying t = some (.struct fs)) (hi : Try.prog.info? t = some i) (ho : o + i.size ≤ cs.length) (hv : (cs.drop o).take i.size = v) : aLoad Try.prog h t (pt k o) = some (.agg v.toArray) := by
  rw [aLoad_struct hu hi, rdN, hg]
  have : Nat.ble (o + i.size) cs.length = true := ble_iff.2 ho
  simp [this, hv]
theorem ldAR (hg : h.get k = some (.cells a.cells T false)) : aLoad Try.prog h 9 (pt k 0) = some (.string a.file) ∧
    aLoad Try.prog h 9 (pt k 1) = some (.string a.to) ∧
    aLoad Try.prog h 9 (pt k 2) = some (.string a.name) ∧
    aLoad Try.prog h 9 (pt k 3) = some (.string a.toName) ∧
    aLoad Try.prog h 9 (pt k 4) = some (.string a.path) ∧
    aLoad Try.prog h 28 (pt k 5) = some (.agg a.set.cells.toArray) ∧
    aLoad Try.prog h 4 (pt k 19) = some (.bool a.guard) ∧
    aLoad Try.prog h 26 (pt k 20) = some (.agg #[.int .u32 a.g1, .int .u32 a.g2]) ∧
    aLoad Try.prog h 23 (pt k 22) = some (.int .u32 a.access) ∧
    aLoad Try.prog h 24 (pt k 23) = some (.int .u64 a.offset) ∧
    aLoad Try.prog h 23 (pt k 24) = some (.int .u32 a.count) ∧
    aLoad Try.prog h 3 (pt k 25) = some (.int .i64 a.stable) ∧
    aLoad Try.prog h 3 (pt k 26) = some (.int .i64 a.mode) ∧
    aLoad Try.prog h 3 (pt k 27) = some (.int .i64 a.type) ∧
    aLoad Try.prog h 22 (pt k 28) = some (a.dv) ∧
    aLoad Try.prog h 24 (pt k 29) = some (.int .u64 a.verf) ∧
    aLoad Try.prog h 24 (pt k 30) = some (.int .u64 a.cookie) ∧
    aLoad Try.prog h 24 (pt k 31) = some (.int .u64 a.cookieVerf) ∧
    aLoad Try.prog h 23 (pt k 32) = some (.int .u32 a.dirCount) ∧
    aLoad Try.prog h 23 (pt k 33) = some (.int .u32 a.maxCount) ∧
    aLoad Try.prog h 23 (pt k 34) = some (.int .u32 a.spec1) ∧
    aLoad Try.prog h 23 (pt k 35) = some (.int .u32 a.spec2) :=
  ⟨ldCell hg Try.underlying9 (by simp) (by simp) rfl,
  ldCell hg Try.underlying9 (by simp) (by simp) rfl,
  ldCell hg Try.underlying9 (by simp) (by simp) rfl,
  ldCell hg Try.underlying9 (by simp) (by simp) rfl,
  ldCell hg Try.underlying9 (by simp) (by simp) rfl,
  ldAgg hg Try.underlying28 (show Try.prog.info? 28 = some Try.t28 by kernel_rfl) (by show 5 + 14 ≤ _; simp [AR.cells, SA.cells]) rfl,
  ldCell hg Try.underlying4 (by simp) (by simp) rfl,
  ldAgg (v := [.int .u32 a.g1, .int .u32 a.g2]) hg Try.underlying26 iTime (by show 20 + 2 ≤ _; simp [AR.cells, SA.cells]) rfl,
  ldCell hg Try.underlying23 (by simp) (by simp) rfl,
  ldCell hg Try.underlying24 (by simp) (by simp) rfl,
  ldCell hg Try.underlying23 (by simp) (by simp) rfl,
  ldCell hg Try.underlying3 (by simp) (by simp) rfl,
  ldCell hg Try.underlying3 (by simp) (by simp) rfl,
  ldCell hg Try.underlying3 (by simp) (by simp) rfl,
  ldCell hg Try.underlying22 (by simp) (by simp) rfl,
  ldCell hg Try.underlying24 (by simp) (by simp) rfl,
  ldCell hg Try.underlying24 (by simp) (by simp) rfl,
  ldCell hg Try.underlying24 (by simp) (by simp) rfl,
  ldCell hg Try.underlying23 (by simp) (by simp) rfl,
  ldCell hg Try.underlying23 (by simp) (by simp) rfl,
  ldCell hg Try.underlying23 (by simp) (by simp) rfl,
  ldCell hg Try.underlying23 (by simp) (by simp) rfl⟩
end
end Go.Proofs.Ytanknjpcgceccaa

namespace Go.Proofs.Ytanknjpcgceccaa
open Go Go.AM
set_option linter.unusedSimpArgs false
set_option maxRecDepth 100000
attribute [local irreducible] WOps WV WH WSt WNil WPick WGd
set_option maxHeartbeats 1000000 in
theorem equalB_am (v1 v2 : Value) (us bs : List Int) (h : Heap) (r1 : Row h v1 (us.map (Value.int .u8))) (r2 : Row h v2 (bs.map (Value.int .u8))) (hm : us.length ≤ 9223372036854775807) :
    Cl Try.prog 46 [v1, v2] h fun v h' => v = .bool (decide (us = bs)) ∧ h' = h := by
  refine Cl.enter Try.func46 rfl _ Try.ntmps46 (by simp) ?_
  intro env hl ha
  have h0 : sl env 0 = v1 := ha 0 (by simp)
  have h1 : sl env 1 = v2 := ha 1 (by simp)
  clear ha
  have l1 := len_any r1 Try.underlying22
  have l2 := len_any r2 Try.underlying22
  simp only [List.length_map] at l1 l2
  by_cases hn : us.length = bs.length
  · have d1 : ((us.length : Int) != bs.length) = false := by rw [hn, bne_self_eq_false]
    repeat (first | (with_reducible refine Wp.st ?_; simp only [wS]) | with_reducible refine Wp.drawS (by decide +kernel) ?_ | simp (disch := (first | (simp only [List.length_set, hl]; omega) | omega | rfl)) only [walkA, walkB, bne_self_eq_false, beq_self_eq_true, Option.map_some, Option.map_none, reduceIte, decide_true, decide_false, Int.reduceLT, Int.reduceLE, Int.reduceMul, Int.reduceAdd, Int.reduceSub, h0, h1, l1, l2, d1])
    refine Wp.cond_false (by first | ((simp (disch := (first | (simp only [List.length_set, hl]; omega) | omega | rfl)) only [sL, aEval_tmp]); done) | ((simp (disch := (first | (simp only [List.length_set, hl]; omega) | omega | rfl)) only [sL, aEval_tmp]); rfl)) ?_
    repeat (first | (with_reducible refine Wp.st ?_; simp only [wS]) | with_reducible refine Wp.drawS (by decide +kernel) ?_ | simp (disch := (first | (simp only [List.length_set, hl]; omega) | omega | rfl)) only [walkA, walkB, bne_self_eq_false, beq_self_eq_true, Option.map_some, Option.map_none, reduceIte, decide_true, decide_false, Int.reduceLT, Int.reduceLE, Int.reduceMul, Int.reduceAdd, Int.reduceSub, h0, h1, l1])
    refine Wp.loop (fun m e hh => ∃ j : Nat, j + m = us.length ∧ e.length = 26 ∧ sl e 0 = v1 ∧ sl e 1 = v2 ∧ sl e 12 = .int .i64 us.length ∧ sl e 13 = .int .i64 j ∧ hh = h ∧ us.take j = bs.take j) us.length
      ⟨0, by omega, by simp [hl], by (simp (disch := (first | (simp only [List.length_set, hl]; omega) | omega | rfl)) only [sL, h0]), by (simp (disch := (first | (simp only [List.length_set, hl]; omega) | omega | rfl)) only [sL, h1]), by (simp (disch := (first | (simp only [List.length_set, hl]; omega) | omega | rfl)) only [sL]), by (simp (disch := (first | (simp only [List.length_set, hl]; omega) | omega | rfl)) only [sL]); rfl, rfl, by simp⟩ ?_
    clear h0 h1 hl env
    rintro m e hh ⟨j, hj, hl, e0, e1, e12, e13, eh, et⟩
    subst eh
    repeat (first | (with_reducible refine Wp.st ?_; simp only [wS]) | with_reducible refine Wp.drawS (by decide +kernel) ?_ | simp (disch := (first | (simp only [List.length_set, hl]; omega) | omega | rfl)) only [walkA, walkB, bne_self_eq_false, beq_self_eq_true, Option.map_some, Option.map_none, reduceIte, decide_true, decide_false, Int.reduceLT, Int.reduceLE, Int.reduceMul, Int.reduceAdd, Int.reduceSub, e0, e1, e12, e13])
    by_cases hlt : j < us.length
    · refine Wp.cond_true (by (simp (disch := (first | (simp only [List.length_set, hl]; omega) | omega | rfl)) only [sL, aEval_tmp]); simpa using hlt) ?_
      have hlt2 : j < bs.length := by omega
      obtain ⟨ka, oa, x1, x2⟩ := r1.index (P := Try.prog) Try.underlying22 i5 rfl (j := j) (kd := .i64) (by simpa using hlt)
      obtain ⟨kb, ob, y1, y2⟩ := r2.index (P := Try.prog) Try.underlying22 i5 rfl (j := j) (kd := .i64) (by simpa using hlt2)
      rw [← aLoad_one (P := Try.prog) Try.underlying5 (by simp) (by simp), List.getElem_map] at x2 y2
      have hta : us.take (j + 1) = us.take j ++ [us[j]] := List.take_succ_eq_append_getElem hlt
      have htb : bs.take (j + 1) = bs.take j ++ [bs[j]] := List.take_succ_eq_append_getElem hlt2
      have hea : us[j]? = some us[j] := List.getElem?_eq_getElem hlt
      have heb : bs[j]? = some bs[j] := List.getElem?_eq_getElem hlt2
      generalize us[j] = a at x2 hta hea
      generalize bs[j] = b at y2 htb heb
      by_cases hab : a = b
      · have d : (a != b) = false := by simpa using hab
        repeat (first | (with_reducible refine Wp.st ?_; simp only [wS]) | with_reducible refine Wp.drawS (by decide +kernel) ?_ | simp (disch := (first | (simp only [List.length_set, hl]; omega) | omega | rfl)) only [walkA, walkB, bne_self_eq_false, beq_self_eq_true, Option.map_some, Option.map_none, reduceIte, decide_true, decide_false, Int.reduceLT, Int.reduceLE, Int.reduceMul, Int.reduceAdd, Int.reduceSub, e0, e1, e12, e13, x1, x2, y1, y2, d])
        refine Wp.cond_false (by first | ((simp (disch := (first | (simp only [List.length_set, hl]; omega) | omega | rfl)) only [sL, aEval_tmp]); done) | ((simp (disch := (first | (simp only [List.length_set, hl]; omega) | omega | rfl)) only [sL, aEval_tmp]); rfl)) ?_
        repeat (first | (with_reducible refine Wp.st ?_; simp only [wS]) | with_reducible refine Wp.drawS (by decide +kernel) ?_ | simp (disch := (first | (simp only [List.length_set, hl]; omega) | omega | rfl)) only [walkA, walkB, bne_self_eq_false, beq_self_eq_true, Option.map_some, Option.map_none, reduceIte, decide_true, decide_false, Int.reduceLT, Int.reduceLE, Int.reduceMul, Int.reduceAdd, Int.reduceSub, e0, e1, e12, e13])
        exact ⟨m - 1, by omega, j + 1, by omega, by simp [hl], by (simp (disch := (first | (simp only [List.length_set, hl]; omega) | omega | rfl)) only [sL, e0]), by (simp (disch := (first | (simp only [List.length_set, hl]; omega) | omega | rfl)) only [sL, e1]), by (simp (disch := (first | (simp only [List.length_set, hl]; omega) | omega | rfl)) only [sL, e12]), by (simp (disch := (first | (simp only [List.length_set, hl]; omega) | omega | rfl)) only [sL, Int.natCast_add]); rfl, by trivial, by rw [hta, htb, et, hab]⟩
      · have d : (a != b) = true := by simpa using hab
        repeat (first | (with_reducible refine Wp.st ?_; simp only [wS]) | with_reducible refine Wp.drawS (by decide +kernel) ?_ | simp (disch := (first | (simp only [List.length_set, hl]; omega) | omega | rfl)) only [walkA, walkB, bne_self_eq_false, beq_self_eq_true, Option.map_some, Option.map_none, reduceIte, decide_true, decide_false, Int.reduceLT, Int.reduceLE, Int.reduceMul, Int.reduceAdd, Int.reduceSub, e0, e1, e12, e13, x1, x2, y1, y2, d])
        refine Wp.cond_true (by first | ((simp (disch := (first | (simp only [List.length_set, hl]; omega) | omega | rfl)) only [sL, aEval_tmp]); done) | ((simp (disch := (first | (simp only [List.length_set, hl]; omega) | omega | rfl)) only [sL, aEval_tmp]); rfl)) ?_
        repeat (first | (with_reducible refine Wp.st ?_; simp only [wS]) | with_reducible refine Wp.drawS (by decide +kernel) ?_ | simp (disch := (first | (simp only [List.length_set, hl]; omega) | omega | rfl)) only [walkA, walkB, bne_self_eq_false, beq_self_eq_true, Option.map_some, Option.map_none, reduceIte, decide_true, decide_false, Int.reduceLT, Int.reduceLE, Int.reduceMul, Int.reduceAdd, Int.reduceSub, e0])
        simp (disch := (first | (simp only [List.length_set, hl]; omega) | omega | rfl)) only [aRes_one Try.results46, sL]
        have : us ≠ bs := fun e => hab (by rw [e, heb] at hea; injection hea with hea; exact hea.symm)
        exact ⟨by simp [this], trivial⟩
    · refine Wp.cond_false (by (simp (disch := (first | (simp only [List.length_set, hl]; omega) | omega | rfl)) only [sL, aEval_tmp]); simpa using hlt) ?_
      repeat (first | (with_reducible refine Wp.st ?_; simp only [wS]) | with_reducible refine Wp.drawS (by decide +kernel) ?_ | simp (disch := (first | (simp only [List.length_set, hl]; omega) | omega | rfl)) only [walkA, walkB, bne_self_eq_false, beq_self_eq_true, Option.map_some, Option.map_none, reduceIte, decide_true, decide_false, Int.reduceLT, Int.reduceLE, Int.reduceMul, Int.reduceAdd, Int.reduceSub, e0, e1, e12, e13])
      simp (disch := (first | (simp only [List.length_set, hl]; omega) | omega | rfl)) only [aRes_one Try.results46, sL]
      rw [List.take_of_length_le (by omega), List.take_of_length_le (by omega)] at et
      exact ⟨by simp [et], trivial⟩
  · have d1 : ((us.length : Int) != bs.length) = true := by simp only [bne_iff_ne, ne_eq]; omega
    repeat (first | (with_reducible refine Wp.st ?_; simp only [wS]) | with_reducible refine Wp.drawS (by decide +kernel) ?_ | simp (disch := (first | (simp only [List.length_set, hl]; omega) | omega | rfl)) only [walkA, walkB, bne_self_eq_false, beq_self_eq_true, Option.map_some, Option.map_none, reduceIte, decide_true, decide_false, Int.reduceLT, Int.reduceLE, Int.reduceMul, Int.reduceAdd, Int.reduceSub, h0, h1, l1, l2, d1])
    refine Wp.cond_true (by first | ((simp (disch := (first | (simp only [List.length_set, hl]; omega) | omega | rfl)) only [sL, aEval_tmp]); done) | ((simp (disch := (first | (simp only [List.length_set, hl]; omega) | omega | rfl)) only [sL, aEval_tmp]); rfl)) ?_
    repeat (first | (with_reducible refine Wp.st ?_; simp only [wS]) | with_reducible refine Wp.drawS (by decide +kernel) ?_ | simp (disch := (first | (simp only [List.length_set, hl]; omega) | omega | rfl)) only [walkA, walkB, bne_self_eq_false, beq_self_eq_true, Option.map_some, Option.map_none, reduceIte, decide_true, decide_false, Int.reduceLT, Int.reduceLE, Int.reduceMul, Int.reduceAdd, Int.reduceSub, h0])
    simp (disch := (first | (simp only [List.length_set, hl]; omega) | omega | rfl)) only [aRes_one Try.results46, sL]
    have : us ≠ bs := fun e => hn (by rw [e])
    exact ⟨by simp [this], trivial⟩
end Go.Proofs.Ytanknjpcgceccaa

namespace Go.Proofs.Ytanknjpcgceccaa
open Go Go.AM
set_option linter.unusedSimpArgs false
set_option maxRecDepth 100000
def kd : Value → Nat
  | .bool _ => 0
  | .int .i64 _ => 1
  | .int .u32 x => if 0 ≤ x ∧ x < 4294967296 then 2 else 9
  | .int .u64 _ => 3
  | .string _ => 4
  | .slice _ _ _ => 5
  | _ => 9
def WT (K : List Nat) (cs : List Value) : Prop := cs.map kd = K
section
variable {K : List Nat} {cs : List Value} {o t : Nat} {v : Value} {bs : List Int} {x : RS}
theorem set_same {α : Type} {l : List α} {o : Nat} {x : α} (h : l[o]? = some x) : l.set o x = l := by
  obtain ⟨hl, he⟩ := List.getElem?_eq_some_iff.1 h
  rw [← he]; exact List.set_getElem_self hl
theorem WT.set (h : WT K cs) (hk : K[o]? = some (kd v)) : WT K (cs.set o v) := by
  unfold WT at *
  rw [List.map_set, h, set_same hk]
end
section
variable {bs : List Int} {x : RS} (hby : ∀ b ∈ bs, 0 ≤ b ∧ b < 256)
include hby
end
end Go.Proofs.Ytanknjpcgceccaa

namespace Go.Proofs.Ytanknjpcgceccaa
open Go Go.AM
set_option linter.unusedSimpArgs false
set_option maxRecDepth 100000
attribute [local irreducible] WOps WV WH WSt WNil WPick WGd
abbrev TO : TypeId := 93
abbrev TRW : TypeId := 91
def OW (Z : Nat → Prop) (H0 h : Heap) (ko kw : Nat) (x : WS) (L : List Blk) : Prop := ∃ wv, WB Z H0 h kw TRW wv x.bs ((ko, [pt kw 0, .bool x.bad], TO) :: L)
section
variable {Z : Nat → Prop} {H0 h h' : Heap} {ko kw : Nat} {x : WS} {L L' : List Blk} {kt : Nat} {cs : List Value} {T : TypeId} {b : Blk}
theorem OW.perm (c : OW Z H0 h ko kw x L) (p : L.Perm L') : OW Z H0 h ko kw x L' := by
  obtain ⟨wv, c⟩ := c
  exact ⟨wv, WB.perm c (p.cons _)⟩
theorem OW.drop (c : OW Z H0 h ko kw x (b :: L)) : OW Z H0 h ko kw x L := by
  obtain ⟨wv, c⟩ := c
  exact ⟨wv, (WB.perm c (.swap _ _ _)).drop⟩
theorem OW.alloc (c : OW Z H0 h ko kw x L) (cs : List Value) (T : TypeId) : OW Z H0 (h.push (.cells cs T false)) ko kw x ((h.next, cs, T) :: L) := by
  obtain ⟨wv, c⟩ := c
  exact ⟨wv, (WB.alloc c cs T).perm (.swap _ _ _)⟩
theorem OW.lr (c : OW Z H0 h ko kw x L) : aLoad Try.prog h 89 (pt ko 0) = some (pt kw 0) := by
  obtain ⟨wv, c⟩ := c
  rw [c.ld Try.underlying89 (by simp) (by simp)]; rfl
theorem OW.lb (c : OW Z H0 h ko kw x L) : aLoad Try.prog h 4 (pt ko 1) = some (.bool x.bad) := by
  obtain ⟨wv, c⟩ := c
  rw [c.ld Try.underlying4 (by simp) (by simp)]; rfl
theorem OW.ld {t : TypeId} {d : TypeDesc} (c : OW Z H0 h ko kw x ((kt, cs, T) :: L)) (hu : Try.prog.underlying t = some d) (h1 : ∀ fs, d ≠ .struct fs) (h2 : ∀ n e, d ≠ .array n e) (o : Nat) : aLoad Try.prog h t (pt kt o) = cs[o]? := by
  obtain ⟨wv, c⟩ := c
  exact (WB.perm c (.swap _ _ _)).ld hu h1 h2 o
theorem OW.ldS {t : TypeId} {i : TypeInfo} {fs : Array Field} (c : OW Z H0 h ko kw x ((kt, cs, T) :: L)) (hu : Try.prog.underlying t = some (.struct fs)) (hi : Try.prog.info? t = some i) (o : Nat) (ho : o + i.size ≤ cs.length) : aLoad Try.prog h t (pt kt o) = some (.agg ((cs.drop o).take i.size).toArray) := by
  obtain ⟨wv, c⟩ := c
  have hg := c.st.get (kt, cs, T) (by simp)
  rw [aLoad_struct hu hi, rdN, hg]
  have : Nat.ble (o + i.size) cs.length = true := ble_iff.2 ho
  simp [this]
theorem OW.sb (c : OW Z H0 h ko kw x L) (b : Bool) : ∃ h2, aStore Try.prog h 4 (pt ko 1) (.bool b) = some h2 ∧ OW Z H0 h2 ko kw ⟨x.bs, b⟩ L := by
  obtain ⟨wv, c⟩ := c
  obtain ⟨h2, p, q⟩ := c.put (t := 4) iB rfl 1 (by simp) (v := .bool b) rfl rfl
  exact ⟨h2, p, wv, q⟩
theorem OW.done (c : OW Z H0 h ko kw x L) {bs' : List Value} {f : FuncId} {args : List Value} (hc : ∀ wv, WR h kw TRW wv x.bs → x.bs.all Value.oneCell' = true → (∀ j, own wv kw j → ¬ Z j ∧ ∀ y ∈ L, y.1 ≠ j) → Cl Try.prog f args h (WQ h kw TRW wv bs')) (h1 : x.bs.all Value.oneCell' = true → bs'.all Value.oneCell' = true) :
    Cl Try.prog f args h fun v h' => v = .tuple #[] ∧ OW Z H0 h' ko kw ⟨bs', x.bad⟩ L := by
  obtain ⟨wv, c⟩ := c
  refine (hc wv c.wr c.one (fun j hj => ⟨?_, ?_⟩)).mono fun v h' q => ?_
  · rcases hj with rfl | hj
    · exact c.st.off _ (List.mem_cons_self)
    · exact (c.off j hj).2.1
  · intro y hy
    rcases hj with rfl | hj
    · exact c.st.ne _ (List.mem_cons_of_mem _ hy)
    · exact (c.off j hj).2.2 y (List.mem_cons_of_mem _ hy)
  · obtain ⟨hr, v', hw, hs, hf⟩ := q
    exact ⟨hr, v', WB.write c hw hs hf (h1 c.one)⟩
end
end Go.Proofs.Ytanknjpcgceccaa

namespace Go.Proofs.Ytanknjpcgceccaa
open Go Go.AM
set_option linter.unusedSimpArgs false
set_option maxRecDepth 100000
attribute [local irreducible] WOps WV WH WSt WNil WPick WGd
section
variable {n : Nat} {x : WS}
end
section
variable {Z : Nat → Prop} {H0 h h' : Heap} {ko kw : Nat} {x : WS} {L L' : List Blk} {kt : Nat} {cs : List Value} {T : TypeId} {b : Blk}
theorem OW.ldv {t : TypeId} {d : TypeDesc} {v : Value} (c : OW Z H0 h ko kw x ((kt, cs, T) :: L)) (hu : Try.prog.underlying t = some d) (h1 : ∀ fs, d ≠ .struct fs) (h2 : ∀ n e, d ≠ .array n e) (o : Nat) (hv : cs[o]? = some v) : aLoad Try.prog h t (pt kt o) = some v := by rw [c.ld hu h1 h2 o, hv]
theorem OW.ldI {v : Value} (c : OW Z H0 h ko kw x ((kt, cs, T) :: L)) (o : Nat) (hv : cs[o]? = some v) : aLoad Try.prog h 3 (pt kt o) = some v := c.ldv Try.underlying3 (by simp) (by simp) o hv
end
end Go.Proofs.Ytanknjpcgceccaa

namespace Go.Proofs.Ytanknjpcgceccaa
open Go Go.AM
set_option linter.unusedSimpArgs false
set_option maxRecDepth 100000
attribute [local irreducible] WOps WV WH WSt WNil WPick WGd
section
variable {k off : Nat}
end
def sZ : SA := ⟨false, false, false, false, 0, 0, 0, 0, 0, 0, 0, 0, 0, 0⟩
def aZ : AR := ⟨⟨#[]⟩, ⟨#[]⟩, ⟨#[]⟩, ⟨#[]⟩, ⟨#[]⟩, sZ, false, 0, 0, 0, 0, 0, 0, 0, 0, .slice none 0 0, [], 0, 0, 0, 0, 0, 0, 0⟩
theorem u0 : u32r 0 := ⟨by decide, by decide⟩
def aK : AR := { aZ with file := ⟨#[97, 98, 99, 100]⟩, access := 63 }
theorem aK_ok : aK.OK := AR.WF.ok ⟨⟨u0, u0, u0, u0, u0, u0⟩, u0, u0, ⟨by decide, by decide⟩, u0, u0, u0, u0, u0, ⟨_, _, _, rfl⟩, ⟨⟨#[]⟩, rfl⟩⟩ (by decide)
theorem bK : aBuild Try.prog 30 [(0, .string ⟨#[97, 98, 99, 100]⟩), (8, .int .u32 63)] = some (.agg aK.cells.toArray) := by kernel_rfl
def kB : List Value := [0, 0, 0, 4, 97, 98, 99, 100, 0, 0, 0, 63].map (Value.int .u8)
theorem kW : wrArgs 4 aK = (kB, 0) := by kernel_rfl
theorem kS : strS kB = ⟨#[0, 0, 0, 4, 97, 98, 99, 100, 0, 0, 0, 63]⟩ := by kernel_rfl
theorem ext0 {a b : Value} : aExtract (.tuple #[a, b]) 0 = some a := (rfl)
theorem ext1 {a b : Value} : aExtract (.tuple #[a, b]) 1 = some b := (rfl)
theorem known_am (h : Heap) : Cl Try.prog 8 [] h fun v h' => v = .bool true ∧ Same h h' noS := by
  refine Cl.enter Try.func8 rfl _ Try.ntmps8 (by simp) ?_
  intro env hl ha
  clear ha
  repeat (first | (with_reducible refine Wp.st ?_; simp only [wS]) | with_reducible refine Wp.drawS (by decide +kernel) ?_ | simp (disch := (first | (simp only [List.length_set, hl]; omega) | omega | rfl)) only [walkA, walkB, bne_self_eq_false, beq_self_eq_true, Option.map_some, Option.map_none, reduceIte, decide_true, decide_false, Int.reduceLT, Int.reduceLE, Int.reduceMul, Int.reduceAdd, Int.reduceSub, bK])
  refine (writeArgs_am 4 aK aK_ok h (.inl ⟨rfl, rfl⟩)).mono ?_
  intro v h2 q
  obtain ⟨bv, e, ob, sm, _, _⟩ := q
  rw [kW] at e ob
  rw [e]
  have cv := conv_row ob.row ⟨_, rfl⟩
  rw [kS] at cv
  repeat (first | (with_reducible refine Wp.st ?_; simp only [wS]) | with_reducible refine Wp.drawS (by decide +kernel) ?_ | simp (disch := (first | (simp only [List.length_set, hl]; omega) | omega | rfl)) only [walkA, walkB, bne_self_eq_false, beq_self_eq_true, Option.map_some, Option.map_none, reduceIte, decide_true, decide_false, Int.reduceLT, Int.reduceLE, Int.reduceMul, Int.reduceAdd, Int.reduceSub, cv, bin_str, ext0, ext1])
  simp (disch := (first | (simp only [List.length_set, hl]; omega) | omega | rfl)) only [aRes_one Try.results8, sL]
  exact ⟨by trivial, sm⟩
end Go.Proofs.Ytanknjpcgceccaa

namespace Go.Proofs.Ytanknjpcgceccaa
open Go Go.AM
set_option linter.unusedSimpArgs false
set_option maxRecDepth 100000
attribute [local irreducible] WOps WV WH WSt WNil WPick WGd
structure AT where
  type : Int
  mode : Int
  nlink : Int
  uid : Int
  gid : Int
  size : Int
  used : Int
  fileid : Int
  a1 : Int
  a2 : Int
  m1 : Int
  m2 : Int
  c1 : Int
  c2 : Int
def AT.cells (x : AT) : List Value := [.int .i64 x.type, .int .i64 x.mode, .int .i64 x.nlink, .int .u32 x.uid, .int .u32 x.gid, .int .u64 x.size, .int .u64 x.used, .int .u64 x.fileid, .int .u32 x.a1, .int .u32 x.a2, .int .u32 x.m1, .int .u32 x.m2, .int .u32 x.c1, .int .u32 x.c2]
def AT.eq (x y : AT) : Bool := ((x.type == y.type) && ((x.mode == y.mode) && ((x.nlink == y.nlink) && ((x.uid == y.uid) && ((x.gid == y.gid) && ((x.size == y.size) && ((x.used == y.used) && ((x.fileid == y.fileid) && (eqT x.a1 x.a2 y.a1 y.a2 && (eqT x.m1 x.m2 y.m1 y.m2 && (eqT x.c1 x.c2 y.c1 y.c2 && true)))))))))))
structure PO where
  has : Bool
  att : AT
def PO.cells (x : PO) : List Value := [.bool x.has] ++ x.att.cells
def PO.eq (x y : PO) : Bool := ((x.has == y.has) && (x.att.eq y.att && true))
structure WC where
  has : Bool
  size : Int
  m1 : Int
  m2 : Int
  c1 : Int
  c2 : Int
def WC.cells (x : WC) : List Value := [.bool x.has, .int .u64 x.size, .int .u32 x.m1, .int .u32 x.m2, .int .u32 x.c1, .int .u32 x.c2]
def WC.eq (x y : WC) : Bool := ((x.has == y.has) && ((x.size == y.size) && (eqT x.m1 x.m2 y.m1 y.m2 && (eqT x.c1 x.c2 y.c1 y.c2 && true))))
structure EN where
  fileid : Int
  name : ByteArray
  cookie : Int
  attr : PO
  hasHandle : Bool
  handle : ByteArray
def EN.cells (x : EN) : List Value := [.int .u64 x.fileid, .string x.name, .int .u64 x.cookie] ++ x.attr.cells ++ [.bool x.hasHandle, .string x.handle]
def EN.eq (x y : EN) : Bool := ((x.fileid == y.fileid) && ((x.name.data.toList == y.name.data.toList) && ((x.cookie == y.cookie) && (x.attr.eq y.attr && ((x.hasHandle == y.hasHandle) && ((x.handle.data.toList == y.handle.data.toList) && true))))))
structure RR where
  status : Int
  obj : PO
  dir : PO
  before : WC
  toBefore : WC
  after : PO
  toAfter : PO
  hasHandle : Bool
  handle : ByteArray
  access : Int
  path : ByteArray
  count : Int
  eof : Bool
  dv : Value
  data : List Value
  committed : Int
  verf : Int
  cookieVerf : Int
  ev : Value
  ents : List EN
  bytes : Int
  freeBytes : Int
  files : Int
  freeFiles : Int
def RR.cells (x : RR) : List Value := [.int .i64 x.status] ++ x.obj.cells ++ x.dir.cells ++ x.before.cells ++ x.toBefore.cells ++ x.after.cells ++ x.toAfter.cells ++ [.bool x.hasHandle, .string x.handle, .int .u32 x.access, .string x.path, .int .u32 x.count, .bool x.eof, x.dv, .int .i64 x.committed, .int .u64 x.verf, .int .u64 x.cookieVerf, x.ev, .int .u64 x.bytes, .int .u64 x.freeBytes, .int .u64 x.files, .int .u64 x.freeFiles]
theorem AT.one (x : AT) : x.cells.all Value.oneCell' = true := by simp [AT.cells, Value.oneCell']
theorem PO.one (x : PO) : x.cells.all Value.oneCell' = true := by
  have := x.att.one
  simp only [PO.cells, List.all_append, this]
  rfl
theorem WC.one (x : WC) : x.cells.all Value.oneCell' = true := by simp [WC.cells, Value.oneCell']
theorem EN.one (x : EN) : x.cells.all Value.oneCell' = true := by
  have := x.attr.one
  simp only [EN.cells, List.all_append, this]
  rfl
theorem AT.len (x : AT) : x.cells.length = 14 := rfl
theorem PO.len (x : PO) : x.cells.length = 15 := rfl
theorem WC.len (x : WC) : x.cells.length = 6 := rfl
theorem EN.len (x : EN) : x.cells.length = 20 := rfl
theorem RR.len (x : RR) : x.cells.length = 88 := rfl
theorem RR.one (x : RR) (h1 : ∃ a n c, x.dv = .slice a n c) (h2 : ∃ a n c, x.ev = .slice a n c) : x.cells.all Value.oneCell' = true := by
  obtain ⟨a, n, c, e⟩ := h1
  obtain ⟨a', n', c', e'⟩ := h2
  have p1 := x.obj.one; have p2 := x.dir.one; have p3 := x.before.one; have p4 := x.toBefore.one; have p5 := x.after.one; have p6 := x.toAfter.one
  simp only [RR.cells, List.all_append, p1, p2, p3, p4, p5, p6, e, e']
  rfl
section
variable {h : Heap} {k : Nat} {x : RR} {T : TypeId}
end
end Go.Proofs.Ytanknjpcgceccaa

namespace Go.Proofs.Ytanknjpcgceccaa
open Go Go.AM
set_option linter.unusedSimpArgs false
set_option maxRecDepth 100000
attribute [local irreducible] WOps WV WH WSt WNil WPick WGd
def enEq : List EN → List EN → Bool
  | [], [] => true
  | x :: l, y :: r => x.eq y && enEq l r
  | _, _ => false
end Go.Proofs.Ytanknjpcgceccaa

namespace Go.Proofs.Ytanknjpcgceccaa
open Go Go.AM
set_option linter.unusedSimpArgs false
set_option maxRecDepth 100000
attribute [local irreducible] WOps WV WH WSt WNil WPick WGd
theorem Wp.fresh {P : Program} {c : Code} {Q : AX → List Value → Heap → Prop} {env : List Value} {h : Heap} (n i j : Nat) {x y : Value} (h1 : env.length = n) (h2 : sl env i = x) (h3 : sl env j = y) (k : ∀ e : List Value, e.length = n → sl e i = x → sl e j = y → Wp P c Q e h) : Wp P c Q env h := k env h1 h2 h3
def RR.eq (a b : RR) : Bool := (a.status == b.status) && a.obj.eq b.obj && a.dir.eq b.dir && a.before.eq b.before && a.toBefore.eq b.toBefore && a.after.eq b.after && a.toAfter.eq b.toAfter && (a.hasHandle == b.hasHandle) && (a.handle.data.toList == b.handle.data.toList) && (a.access == b.access) && (a.path.data.toList == b.path.data.toList) && (a.count == b.count) && (a.eof == b.eof) && ((strS a.data).data.toList == (strS b.data).data.toList) && (a.committed == b.committed) && (a.verf == b.verf) && (a.cookieVerf == b.cookieVerf) && (a.bytes == b.bytes) && (a.freeBytes == b.freeBytes) && (a.files == b.files) && (a.freeFiles == b.freeFiles) && enEq a.ents b.ents
end Go.Proofs.Ytanknjpcgceccaa

namespace Go.Proofs.Ytanknjpcgceccaa
open Go Go.AM
set_option linter.unusedSimpArgs false
set_option maxRecDepth 100000
attribute [local irreducible] WOps WV WH WSt WNil WPick WGd
theorem dec_dat {xs ys : List Int} {d e : List Value} (hx : d = xs.map (Value.int .u8)) (hy : e = ys.map (Value.int .u8)) (hs : ∃ s, d = strB s) (ht : ∃ t, e = strB t) : decide (xs = ys) = ((strS d).data.toList == (strS e).data.toList) := by
  obtain ⟨s, hs⟩ := hs
  obtain ⟨t, ht⟩ := ht
  rw [Bool.eq_iff_iff, decide_eq_true_iff, beq_iff_eq]
  constructor
  · rintro rfl
    rw [hx, hy]
  · intro h
    rw [hs, ht, strS_str, strS_str] at h
    have h := bytes_inj h
    have : xs.map (Value.int .u8) = ys.map (Value.int .u8) := by rw [← hx, ← hy, hs, ht, h]
    exact (List.map_inj_right (fun a b e => by injection e)).1 this
end Go.Proofs.Ytanknjpcgceccaa

namespace Go.Proofs.Ytanknjpcgceccaa
open Go Go.AM Go.RowKit Go.ChangeShapes
set_option linter.unusedSimpArgs false
set_option maxRecDepth 100000
def kr (k : IntKind) (x : Int) : Prop := (Lit.int k x).wf = true
section
variable {H : Type} {h : Heap}
structure AT.WF (x : AT) : Prop where
  type : kr .i64 x.type
  mode : kr .i64 x.mode
  nlink : kr .i64 x.nlink
  uid : u32r x.uid
  gid : u32r x.gid
  size : kr .u64 x.size
  used : kr .u64 x.used
  fileid : kr .u64 x.fileid
  a1 : u32r x.a1
  a2 : u32r x.a2
  m1 : u32r x.m1
  m2 : u32r x.m2
  c1 : u32r x.c1
  c2 : u32r x.c2
structure PO.WF (x : PO) : Prop where
  att : x.att.WF
structure WC.WF (x : WC) : Prop where
  size : kr .u64 x.size
  m1 : u32r x.m1
  m2 : u32r x.m2
  c1 : u32r x.c1
  c2 : u32r x.c2
structure EN.WF (x : EN) : Prop where
  fileid : kr .u64 x.fileid
  name : x.name.size ≤ 9223372036854775807
  cookie : kr .u64 x.cookie
  attr : x.attr.WF
  handle : x.handle.size ≤ 9223372036854775807
structure RR.WF (x : RR) : Prop where
  status : kr .i64 x.status
  obj : x.obj.WF
  dir : x.dir.WF
  before : x.before.WF
  toBefore : x.toBefore.WF
  after : x.after.WF
  toAfter : x.toAfter.WF
  handle : x.handle.size ≤ 9223372036854775807
  access : u32r x.access
  path : x.path.size ≤ 9223372036854775807
  count : u32r x.count
  dSl : ∃ a n c, x.dv = .slice a n c
  dStr : ∃ s, x.data = strB s
  dMax : x.data.length ≤ 9223372036854775807
  committed : kr .i64 x.committed
  verf : kr .u64 x.verf
  cookieVerf : kr .u64 x.cookieVerf
  eSl : ∃ a n c, x.ev = .slice a n c
  eMax : x.ents.length ≤ 9223372036854775807
  eWF : ∀ e ∈ x.ents, e.WF
  bytes : kr .u64 x.bytes
  freeBytes : kr .u64 x.freeBytes
  files : kr .u64 x.files
  freeFiles : kr .u64 x.freeFiles
end
end Go.Proofs.Ytanknjpcgceccaa

namespace Go.Proofs.Ytanknjpcgceccaa
open Go Go.AM
set_option linter.unusedSimpArgs false
set_option maxRecDepth 100000
attribute [local irreducible] WOps WV WH WSt WNil WPick WGd
section
variable {Z : Nat → Prop} {H0 h h' : Heap} {ko kw : Nat} {x : WS} {L L' : List Blk} {kt : Nat} {T : TypeId} {a : AR}
end
end Go.Proofs.Ytanknjpcgceccaa

namespace Go.Proofs.Ytanknjpcgceccaa
open Go Go.AM
set_option linter.unusedSimpArgs false
set_option maxRecDepth 100000
attribute [local irreducible] WOps WV WH WSt WNil WPick WGd
theorem hN : hasName 0 = false ∧ hasName 1 = false ∧ hasName 2 = false ∧ hasName 3 = true ∧ hasName 4 = false ∧ hasName 5 = false ∧ hasName 6 = false ∧ hasName 7 = false ∧ hasName 8 = true ∧ hasName 9 = true ∧ hasName 10 = true ∧ hasName 11 = true ∧ hasName 12 = true ∧ hasName 13 = true ∧ hasName 14 = true ∧ hasName 15 = false ∧ hasName 16 = false ∧ hasName 17 = false ∧ hasName 18 = false ∧ hasName 19 = false ∧ hasName 20 = false ∧ hasName 21 = false ∧ hasName 100 = false ∧ hasName 101 = false ∧ hasName 102 = false ∧ hasName 103 = false ∧ hasName 104 = false ∧ hasName 105 = false := by decide
section
variable {Z : Nat → Prop} {H0 h h' : Heap} {ko kw : Nat} {x : WS} {L L' : List Blk} {kt : Nat} {T : TypeId} {a : AR}
theorem OW.ldArgs (c : OW Z H0 h ko kw x ((kt, a.cells, T) :: L)) : aLoad Try.prog h 30 (pt kt 0) = some (.agg a.cells.toArray) := by
  rw [c.ldS Try.underlying30 iArgs 0 (by show 0 + 36 ≤ _; simp [AR.cells, SA.cells])]
  rfl
theorem OW.eq {y : WS} (c : OW Z H0 h ko kw x L) (e : x = y) : OW Z H0 h ko kw y L := e ▸ c
theorem OW.new {cs : List Value} (s : St Z H0 h ((kt, cs, T) :: L)) :
    OW Z H0 ((h.push (.cells [.slice none 0 0] TRW false)).push (.cells [pt h.next 0, .bool false] TO false)) (h.push (.cells [.slice none 0 0] TRW false)).next h.next ⟨[], false⟩ ((kt, cs, T) :: L) :=
  ⟨.slice none 0 0, WB.alloc (⟨s.push _ _, .inl ⟨rfl, rfl⟩, fun j hj => (nilBuf j hj).elim, rfl⟩ : WB Z H0 _ h.next TRW (.slice none 0 0) [] ((kt, cs, T) :: L)) _ _⟩
end
end Go.Proofs.Ytanknjpcgceccaa

namespace Go.Proofs.Ytanknjpcgceccaa
open Go Go.AM
set_option linter.unusedSimpArgs false
set_option maxRecDepth 100000
attribute [local irreducible] WOps WV WH WSt WNil WPick WGd
theorem _root_.Go.AM.Same.tr {h h1 h2 : Heap} (a : Same h h1 noS) (b : Same h1 h2 noS) : Same h h2 noS := a.trans b (fun _ x => x) (fun _ _ x => x)
theorem _root_.Go.AM.Same.got {h h1 : Heap} {k : Nat} {e : Ent} (a : Same h h1 noS) (g : h.get k = some e) : h1.get k = some e := a.2 _ _ g (fun x => x)
theorem _root_.Go.AM.Row.on {h h1 : Heap} {v : Value} {vs : List Value} (r : Row h v vs) (a : Same h h1 noS) : Row h1 v vs := r.same a (fun _ _ _ _ _ x => x)
theorem _root_.Go.AM.RowX.on {h h1 : Heap} {e : TypeId} {v : Value} {vs : List Value} (r : RowX h e v vs) (a : Same h h1 noS) : RowX h1 e v vs := r.same a (fun _ _ _ _ _ x => x)
theorem laidArgs {h : Heap} {vs : List Value} (hl : vs.length = 36) (h1 : One vs) : ∃ h2, aStore Try.prog (h.push (.cells argsZ TA false)) 30 (pt h.next 0) (.agg vs.toArray) = some h2 ∧ h2.get h.next = some (.cells vs TA false) ∧ Same h h2 noS := by
  have s0 := (St.nil (fun j => j < h.next) h (fun _ x => x)).push argsZ TA
  have p := s0.stS (P := Try.prog) (t := 30) iArgs rfl (by rw [hl]; rfl) h1
  exact ⟨_, p.1, p.2.hd, p.2.nx, fun j e he _ => p.2.stay j e he (Heap.get_lt he)⟩
theorem ldArgs {h : Heap} {k : Nat} {vs : List Value} (hg : h.get k = some (.cells vs TA false)) (hl : vs.length = 36) : aLoad Try.prog h 30 (pt k 0) = some (.agg vs.toArray) :=
  ldAgg hg Try.underlying30 iArgs (by show 0 + 36 ≤ _; omega) (by show (vs.drop 0).take 36 = vs; rw [List.drop_zero, List.take_of_length_le (by omega)])
theorem AR.len (a : AR) : a.cells.length = 36 := by simp [AR.cells, SA.cells]
theorem SA.eq_refl (s : SA) : s.eq s = true := by simp [SA.eq, eqT]
theorem AR.eq_dv (a : AR) (d1 d2 : Value) : AR.eq { a with dv := d1 } { a with dv := d2 } = true := by simp [AR.eq, eqT, SA.eq_refl]
theorem appended {h : Heap} {bv : Value} {bs : List Value} (r : Row h bv bs) (h1 : bs.all Value.oneCell' = true) (hl : bs.length ≤ 1000000000) :
    ∃ v h2, aAppend Try.prog (h.push (.cells [] 5 false)) 22 22 (.slice (some ⟨h.next, 0, none⟩) 0 0) bv = some (v, h2) ∧ Buf h2 5 v bs ∧ Same h h2 noS ∧ ∀ j, bufBlk v j → h.next ≤ j := by
  have hs0 : Same h (h.push (.cells [] 5 false)) noS := Same.push _ _ _
  have hb2 := r.on hs0
  have hbuf : Buf (h.push (.cells [] 5 false)) 5 (.slice (some ⟨h.next, 0, none⟩) 0 0) [] := .inr (.inl ⟨rfl, h.next, [], 5, false, rfl, Heap.get_push_new⟩)
  obtain ⟨v1, hh1, ha1, hbv, hs1, hf1⟩ := Buf.append (P := Try.prog) hbuf Try.underlying22 i5 rfl rfl rfl rfl (hb2.src Try.underlying22 (by simp) rfl) rfl h1 (small_of (by simp; omega)) (small_of (by simp [Try.t5]; omega))
  have hfr : ∀ j, bufBlk (.slice (some ⟨h.next, 0, none⟩) 0 0) j → h.next ≤ j := by
    rintro j ⟨o, m, d, hh⟩
    injection hh with hh; injection hh with hh; injection hh with hh
    omega
  exact ⟨v1, hh1, ha1, by simpa using hbv, hs0.trans hs1 (fun _ x => x) (fun b hb x => absurd (hfr b x) (by omega)), fun b x => (hf1 b x).elim (hfr b) (fun y => Nat.le_trans (by simp) y)⟩
section
variable {x : WS}
end
end Go.Proofs.Ytanknjpcgceccaa

namespace Go.Proofs.Ytanknjpcgceccaa
open Go Go.AM
set_option linter.unusedSimpArgs false
set_option maxRecDepth 100000
attribute [local irreducible] WOps WV WH WSt WNil WPick WGd
theorem laidTwo {h : Heap} {vs ws : List Value} (hl : vs.length = 36) (h1 : One vs) (hl2 : ws.length = 36) (h2 : One ws) :
    ∃ h5 h6 h7 h8, aStore Try.prog ((h.push (.cells argsZ TA false)).push (.cells argsZ TA false)) 30 (pt h.next 0) (.agg vs.toArray) = some h5 ∧ aStore Try.prog h5 30 (pt (h.push (.cells argsZ TA false)).next 0) (.agg ws.toArray) = some h6 ∧
      aStore Try.prog h6 22 (pt h.next 28) (.slice none 0 0) = some h7 ∧ aStore Try.prog h7 22 (pt (h.push (.cells argsZ TA false)).next 28) (.slice none 0 0) = some h8 ∧
      h8.get h.next = some (.cells (vs.set 28 (.slice none 0 0)) TA false) ∧ h8.get (h.push (.cells argsZ TA false)).next = some (.cells (ws.set 28 (.slice none 0 0)) TA false) ∧ Same h h8 noS := by
  have s0 := ((St.nil (fun j => j < h.next) h (fun _ x => x)).push argsZ TA).push argsZ TA
  have p := s0.swap.stS (P := Try.prog) (t := 30) iArgs rfl (by rw [hl]; rfl) h1
  have q := p.2.swap.stS (P := Try.prog) (t := 30) iArgs rfl (by rw [hl2]; rfl) h2
  have r := q.2.swap.st (P := Try.prog) (t := 22) iRow rfl 28 (by omega) (v := .slice none 0 0) rfl rfl
  have s := r.2.swap.st (P := Try.prog) (t := 22) iRow rfl 28 (by omega) (v := .slice none 0 0) rfl rfl
  exact ⟨_, _, _, _, p.1, q.1, r.1, s.1, s.2.swap.hd, s.2.hd, s.2.nx, fun j e he _ => s.2.stay j e he (Heap.get_lt he)⟩
def AR.bare (a : AR) : AR := { a with dv := .slice none 0 0, data := [] }
theorem AR.bare_cells (a : AR) : a.cells.set 28 (.slice none 0 0) = a.bare.cells := rfl
def AR.eqR (a b : AR) : Bool := (a.file.data.toList == b.file.data.toList) && (a.to.data.toList == b.to.data.toList) && (a.name.data.toList == b.name.data.toList) && (a.toName.data.toList == b.toName.data.toList) && (a.path.data.toList == b.path.data.toList) && a.set.eq b.set && (a.guard == b.guard) && eqT a.g1 a.g2 b.g1 b.g2 && (a.access == b.access) && (a.offset == b.offset) && (a.count == b.count) && (a.stable == b.stable) && (a.mode == b.mode) && (a.type == b.type) && (a.verf == b.verf) && (a.cookie == b.cookie) && (a.cookieVerf == b.cookieVerf) && (a.dirCount == b.dirCount) && (a.maxCount == b.maxCount) && (a.spec1 == b.spec1) && (a.spec2 == b.spec2)
set_option maxHeartbeats 8000000 in
theorem sameArgs_am (a b : AR) (xa ya : List Int) (h : Heap) (ha : ∃ x n c, a.dv = .slice x n c) (hb : ∃ x n c, b.dv = .slice x n c) (ea : a.data = xa.map (Value.int .u8)) (eb : b.data = ya.map (Value.int .u8)) (ra : Row h a.dv a.data) (rb : Row h b.dv b.data) (hm : xa.length ≤ 9223372036854775807) :
    Cl Try.prog 15 [.agg a.cells.toArray, .agg b.cells.toArray] h fun v h' => v = .bool (decide (xa = ya) && a.eqR b) ∧ Same h h' noS := by
  refine Cl.enter Try.func15 rfl _ Try.ntmps15 (by simp) ?_
  intro env hl ha
  have h0 : sl env 0 = .agg a.cells.toArray := ha 0 (by simp)
  have h1 : sl env 1 = .agg b.cells.toArray := ha 1 (by simp)
  clear ha
  have oneA : a.cells.all Value.oneCell' = true := by obtain ⟨x, n, c, e⟩ := ha; simp [AR.cells, SA.cells, Value.oneCell', e]
  have oneB : b.cells.all Value.oneCell' = true := by obtain ⟨x, n, c, e⟩ := hb; simp [AR.cells, SA.cells, Value.oneCell', e]
  have lenA : a.cells.length = 36 := by simp [AR.cells, SA.cells]
  have lenB : b.cells.length = 36 := by simp [AR.cells, SA.cells]
  have xa' : aBox h 30 (.agg a.cells.toArray) = some (pt h.next 0, h.push (.cells a.cells TA false)) := by simp [aBox, aNew, Value.cells, oneA]
  have xb' : aBox (h.push (.cells a.cells TA false)) 30 (.agg b.cells.toArray) = some (pt (h.push (.cells a.cells TA false)).next 0, (h.push (.cells a.cells TA false)).push (.cells b.cells TA false)) := by simp [aBox, aNew, Value.cells, oneB]
  have sm : Same h ((h.push (.cells a.cells TA false)).push (.cells b.cells TA false)) noS := (Same.push _ _ _).trans (Same.push _ _ _) (fun _ x => x) (fun _ _ x => x)
  have ga : ((h.push (.cells a.cells TA false)).push (.cells b.cells TA false)).get h.next = some (.cells a.cells TA false) := Heap.get_push_old Heap.get_push_new
  have gb : ((h.push (.cells a.cells TA false)).push (.cells b.cells TA false)).get (h.push (.cells a.cells TA false)).next = some (.cells b.cells TA false) := Heap.get_push_new
  generalize hh2 : (h.push (.cells a.cells TA false)).push (.cells b.cells TA false) = h2 at xb' sm ga gb
  generalize (h.push (.cells a.cells TA false)).next = kb at xb' gb
  generalize h.push (.cells a.cells TA false) = h1' at xa' xb'
  generalize h.next = ka at xa' ga
  have la := ldAR ga
  have lb := ldAR gb
  have wa := ldAgg (v := a.cells) ga Try.underlying30 iArgs (o := 0) (by show 0 + 36 ≤ _; omega) (by show (a.cells.drop 0).take 36 = _; rw [List.drop_zero, List.take_of_length_le (by omega)])
  have wb := ldAgg (v := b.cells) gb Try.underlying30 iArgs (o := 0) (by show 0 + 36 ≤ _; omega) (by show (b.cells.drop 0).take 36 = _; rw [List.drop_zero, List.take_of_length_le (by omega)])
  have hka := Heap.get_lt ga
  have hkb := Heap.get_lt gb
  rw [ea] at ra
  rw [eb] at rb
  repeat (first | (with_reducible refine Wp.st ?_; simp only [wS]) | with_reducible refine Wp.drawS (by decide +kernel) ?_ | simp (disch := (first | (simp only [List.length_set, hl]; omega) | omega | rfl)) only [walkA, walkB, bne_self_eq_false, beq_self_eq_true, Option.map_some, Option.map_none, reduceIte, decide_true, decide_false, Int.reduceLT, Int.reduceLE, Int.reduceMul, Int.reduceAdd, Int.reduceSub, h0, h1, xa', xb', la, lb, faA14])
  refine Cl.pure (equalB_am a.dv b.dv xa ya _ (ra.same sm (fun _ _ _ _ _ x => x)) (rb.same sm (fun _ _ _ _ _ x => x)) hm) ?_
  cases hd : decide (xa = ya) with
  | false =>
    repeat (first | (with_reducible refine Wp.st ?_; simp only [wS]) | with_reducible refine Wp.drawS (by decide +kernel) ?_ | simp (disch := (first | (simp only [List.length_set, hl]; omega) | omega | rfl)) only [walkA, walkB, bne_self_eq_false, beq_self_eq_true, Option.map_some, Option.map_none, reduceIte, decide_true, decide_false, Int.reduceLT, Int.reduceLE, Int.reduceMul, Int.reduceAdd, Int.reduceSub, h0, h1])
    refine Wp.cond_true (by first | ((simp (disch := (first | (simp only [List.length_set, hl]; omega) | omega | rfl)) only [sL, aEval_tmp]); done) | ((simp (disch := (first | (simp only [List.length_set, hl]; omega) | omega | rfl)) only [sL, aEval_tmp]); rfl)) ?_
    repeat (first | (with_reducible refine Wp.st ?_; simp only [wS]) | with_reducible refine Wp.drawS (by decide +kernel) ?_ | simp (disch := (first | (simp only [List.length_set, hl]; omega) | omega | rfl)) only [walkA, walkB, bne_self_eq_false, beq_self_eq_true, Option.map_some, Option.map_none, reduceIte, decide_true, decide_false, Int.reduceLT, Int.reduceLE, Int.reduceMul, Int.reduceAdd, Int.reduceSub, h0])
    simp (disch := (first | (simp only [List.length_set, hl]; omega) | omega | rfl)) only [aRes_one Try.results15, sL]
    exact ⟨rfl, sm⟩
  | true =>
    rw [Bool.true_and]
    repeat (first | (with_reducible refine Wp.st ?_; simp only [wS]) | with_reducible refine Wp.drawS (by decide +kernel) ?_ | simp (disch := (first | (simp only [List.length_set, hl]; omega) | omega | rfl)) only [walkA, walkB, bne_self_eq_false, beq_self_eq_true, Option.map_some, Option.map_none, reduceIte, decide_true, decide_false, Int.reduceLT, Int.reduceLE, Int.reduceMul, Int.reduceAdd, Int.reduceSub, h0, h1])
    refine Wp.cond_false (by first | ((simp (disch := (first | (simp only [List.length_set, hl]; omega) | omega | rfl)) only [sL, aEval_tmp]); done) | ((simp (disch := (first | (simp only [List.length_set, hl]; omega) | omega | rfl)) only [sL, aEval_tmp]); rfl)) ?_
    have al1 := alArgs (h := h2)
    have al2 := alArgs (h := h2.push (.cells argsZ TA false))
    obtain ⟨h5, h6, h7, h8, st5, st6, st7, st8, g5, g6, s8⟩ := laidTwo (h := h2) lenA oneA lenB oneB
    repeat (first | (with_reducible refine Wp.st ?_; simp only [wS]) | with_reducible refine Wp.drawS (by decide +kernel) ?_ | simp (disch := (first | (simp only [List.length_set, hl]; omega) | omega | rfl)) only [walkA, walkB, bne_self_eq_false, beq_self_eq_true, Option.map_some, Option.map_none, reduceIte, decide_true, decide_false, Int.reduceLT, Int.reduceLE, Int.reduceMul, Int.reduceAdd, Int.reduceSub, h0, h1])
    with_reducible refine Wp.parU [0, 0, 0, 0, 13, 31] (by kernel_rfl) ?_
    repeat (simp (disch := (first | (simp only [List.length_set, hl]; omega) | omega | rfl)) only [WD_none, WD_guard, WDG_tt, WDG_ff, WDG_tf, WDG_ft, gval_some, nthD_zero, nthD_succ, WD1_move, WD1_assign, WD1_call, WD1_load, WD1_convert, WD1_fieldAddr, WD1_field, WD1_indexAddr, WD1_extract, WD1_binOp, WD1_unOp, WD1_builtin, WD1_slice2, WD1_slice1, WD1_nilCheck, WD1_pick, DPick_bool, DNil_ptr, DH_some, WDraw_nil, withH_val, aEval_tmp, aEval_const, aPut_some, aPut_none, List.length_set, List.map_cons, List.map_nil, sl_eq, sl_ne, cond_true, cond_false, bin_add, bin_sub, bin_eql, bin_neq, bin_lss, bin_leq, bin_gtr, bin_geq, bne_self_eq_false, beq_self_eq_true, un_not, Bool.not_true, Bool.not_false, wrap_i64, h0, h1, wa, wb, WD1_alloc, WD1_store, al1, al2, st5, st6, Option.map_some])
    refine ⟨?_, ?_⟩
    · simp only [List.reverse_cons, List.reverse_nil, List.nil_append, List.cons_append, AllP, parOneP, parTwoP, and_true, true_and]
      (simp (disch := (first | (simp only [List.length_set, hl]; omega) | omega | rfl)) only [sL, aEval_tmp])
      have ne : (h2.push (.cells argsZ TA false)).next ≠ h2.next := by show h2.next + 1 ≠ _; omega
      have le : h2.next ≤ (h2.push (.cells argsZ TA false)).next := by show _ ≤ h2.next + 1; omega
      exact ⟨⟨_, _, rfl, hka⟩, ⟨_, _, rfl, hkb⟩, ⟨_, _, rfl, Nat.le_refl _, .inr (by decide), .inr (by decide), .inl trivial, .inr ⟨_, _, rfl, ne⟩⟩, ⟨_, _, rfl, le, .inr (by decide), .inr (by decide), .inr ⟨_, _, rfl, ne.symm⟩, .inl trivial⟩⟩
    rw [AR.bare_cells] at g5 g6
    have ma := ldAR g5
    have mb := ldAR g6
    simp only [AR.bare] at ma mb
    have sm8 : Same h h8 noS := sm.trans s8 (fun _ x => x) (fun _ _ x => x)
    clear g5 g6 s8 sm la lb wa wb gb ga st5 st6 al1 al2 xa' xb' ra rb
    generalize h2.next = k5 at st7 ma ⊢
    generalize (h2.push (.cells argsZ TA false)).next = k6 at st8 mb ⊢
    cases e0 : (a.file.data.toList == b.file.data.toList)
    · skip
      repeat (first | (with_reducible refine Wp.st ?_; simp only [wS]) | with_reducible refine Wp.drawS (by decide +kernel) ?_ | simp (disch := (first | (simp only [List.length_set, hl]; omega) | omega | rfl)) only [walkA, walkB, bne_self_eq_false, beq_self_eq_true, Option.map_some, Option.map_none, reduceIte, decide_true, decide_false, Int.reduceLT, Int.reduceLE, Int.reduceMul, Int.reduceAdd, Int.reduceSub, List.append_eq, List.cons_append, List.nil_append, st7, st8, ma, mb, bin_str, bin_boolE, bin_time, bin_sattr, faA14, faA0, faA1, faA2, faA3, faA4, faA5, faA6, faA7, faA8, faA9, faA10, faA11, faA12, faA13, faA14, faA15, faA16, faA17, faA18, faA19, faA20, faA21, e0])
      simp (disch := (first | (simp only [List.length_set, hl]; omega) | omega | rfl)) only [aRes_one Try.results15, sL]
      exact ⟨by simp [AR.eqR, e0], sm8⟩
    cases e1 : (a.to.data.toList == b.to.data.toList)
    · skip
      repeat (first | (with_reducible refine Wp.st ?_; simp only [wS]) | with_reducible refine Wp.drawS (by decide +kernel) ?_ | simp (disch := (first | (simp only [List.length_set, hl]; omega) | omega | rfl)) only [walkA, walkB, bne_self_eq_false, beq_self_eq_true, Option.map_some, Option.map_none, reduceIte, decide_true, decide_false, Int.reduceLT, Int.reduceLE, Int.reduceMul, Int.reduceAdd, Int.reduceSub, List.append_eq, List.cons_append, List.nil_append, st7, st8, ma, mb, bin_str, bin_boolE, bin_time, bin_sattr, faA14, faA0, faA1, faA2, faA3, faA4, faA5, faA6, faA7, faA8, faA9, faA10, faA11, faA12, faA13, faA14, faA15, faA16, faA17, faA18, faA19, faA20, faA21, e0, e1])
      simp (disch := (first | (simp only [List.length_set, hl]; omega) | omega | rfl)) only [aRes_one Try.results15, sL]
      exact ⟨by simp [AR.eqR, e0, e1], sm8⟩
    cases e2 : (a.name.data.toList == b.name.data.toList)
    · skip
      repeat (first | (with_reducible refine Wp.st ?_; simp only [wS]) | with_reducible refine Wp.drawS (by decide +kernel) ?_ | simp (disch := (first | (simp only [List.length_set, hl]; omega) | omega | rfl)) only [walkA, walkB, bne_self_eq_false, beq_self_eq_true, Option.map_some, Option.map_none, reduceIte, decide_true, decide_false, Int.reduceLT, Int.reduceLE, Int.reduceMul, Int.reduceAdd, Int.reduceSub, List.append_eq, List.cons_append, List.nil_append, st7, st8, ma, mb, bin_str, bin_boolE, bin_time, bin_sattr, faA14, faA0, faA1, faA2, faA3, faA4, faA5, faA6, faA7, faA8, faA9, faA10, faA11, faA12, faA13, faA14, faA15, faA16, faA17, faA18, faA19, faA20, faA21, e0, e1, e2])
      simp (disch := (first | (simp only [List.length_set, hl]; omega) | omega | rfl)) only [aRes_one Try.results15, sL]
      exact ⟨by simp [AR.eqR, e0, e1, e2], sm8⟩
    cases e3 : (a.toName.data.toList == b.toName.data.toList)
    · skip
      repeat (first | (with_reducible refine Wp.st ?_; simp only [wS]) | with_reducible refine Wp.drawS (by decide +kernel) ?_ | simp (disch := (first | (simp only [List.length_set, hl]; omega) | omega | rfl)) only [walkA, walkB, bne_self_eq_false, beq_self_eq_true, Option.map_some, Option.map_none, reduceIte, decide_true, decide_false, Int.reduceLT, Int.reduceLE, Int.reduceMul, Int.reduceAdd, Int.reduceSub, List.append_eq, List.cons_append, List.nil_append, st7, st8, ma, mb, bin_str, bin_boolE, bin_time, bin_sattr, faA14, faA0, faA1, faA2, faA3, faA4, faA5, faA6, faA7, faA8, faA9, faA10, faA11, faA12, faA13, faA14, faA15, faA16, faA17, faA18, faA19, faA20, faA21, e0, e1, e2, e3])
      simp (disch := (first | (simp only [List.length_set, hl]; omega) | omega | rfl)) only [aRes_one Try.results15, sL]
      exact ⟨by simp [AR.eqR, e0, e1, e2, e3], sm8⟩
    cases e4 : (a.path.data.toList == b.path.data.toList)
    · skip
      repeat (first | (with_reducible refine Wp.st ?_; simp only [wS]) | with_reducible refine Wp.drawS (by decide +kernel) ?_ | simp (disch := (first | (simp only [List.length_set, hl]; omega) | omega | rfl)) only [walkA, walkB, bne_self_eq_false, beq_self_eq_true, Option.map_some, Option.map_none, reduceIte, decide_true, decide_false, Int.reduceLT, Int.reduceLE, Int.reduceMul, Int.reduceAdd, Int.reduceSub, List.append_eq, List.cons_append, List.nil_append, st7, st8, ma, mb, bin_str, bin_boolE, bin_time, bin_sattr, faA14, faA0, faA1, faA2, faA3, faA4, faA5, faA6, faA7, faA8, faA9, faA10, faA11, faA12, faA13, faA14, faA15, faA16, faA17, faA18, faA19, faA20, faA21, e0, e1, e2, e3, e4])
      simp (disch := (first | (simp only [List.length_set, hl]; omega) | omega | rfl)) only [aRes_one Try.results15, sL]
      exact ⟨by simp [AR.eqR, e0, e1, e2, e3, e4], sm8⟩
    cases e5 : a.set.eq b.set
    · skip
      repeat (first | (with_reducible refine Wp.st ?_; simp only [wS]) | with_reducible refine Wp.drawS (by decide +kernel) ?_ | simp (disch := (first | (simp only [List.length_set, hl]; omega) | omega | rfl)) only [walkA, walkB, bne_self_eq_false, beq_self_eq_true, Option.map_some, Option.map_none, reduceIte, decide_true, decide_false, Int.reduceLT, Int.reduceLE, Int.reduceMul, Int.reduceAdd, Int.reduceSub, List.append_eq, List.cons_append, List.nil_append, st7, st8, ma, mb, bin_str, bin_boolE, bin_time, bin_sattr, faA14, faA0, faA1, faA2, faA3, faA4, faA5, faA6, faA7, faA8, faA9, faA10, faA11, faA12, faA13, faA14, faA15, faA16, faA17, faA18, faA19, faA20, faA21, e0, e1, e2, e3, e4, e5])
      simp (disch := (first | (simp only [List.length_set, hl]; omega) | omega | rfl)) only [aRes_one Try.results15, sL]
      exact ⟨by simp [AR.eqR, e0, e1, e2, e3, e4, e5], sm8⟩
    cases e6 : (a.guard == b.guard)
    · skip
      repeat (first | (with_reducible refine Wp.st ?_; simp only [wS]) | with_reducible refine Wp.drawS (by decide +kernel) ?_ | simp (disch := (first | (simp only [List.length_set, hl]; omega) | omega | rfl)) only [walkA, walkB, bne_self_eq_false, beq_self_eq_true, Option.map_some, Option.map_none, reduceIte, decide_true, decide_false, Int.reduceLT, Int.reduceLE, Int.reduceMul, Int.reduceAdd, Int.reduceSub, List.append_eq, List.cons_append, List.nil_append, st7, st8, ma, mb, bin_str, bin_boolE, bin_time, bin_sattr, faA14, faA0, faA1, faA2, faA3, faA4, faA5, faA6, faA7, faA8, faA9, faA10, faA11, faA12, faA13, faA14, faA15, faA16, faA17, faA18, faA19, faA20, faA21, e0, e1, e2, e3, e4, e5, e6])
      simp (disch := (first | (simp only [List.length_set, hl]; omega) | omega | rfl)) only [aRes_one Try.results15, sL]
      exact ⟨by simp [AR.eqR, e0, e1, e2, e3, e4, e5, e6], sm8⟩
    cases e7 : eqT a.g1 a.g2 b.g1 b.g2
    · skip
      repeat (first | (with_reducible refine Wp.st ?_; simp only [wS]) | with_reducible refine Wp.drawS (by decide +kernel) ?_ | simp (disch := (first | (simp only [List.length_set, hl]; omega) | omega | rfl)) only [walkA, walkB, bne_self_eq_false, beq_self_eq_true, Option.map_some, Option.map_none, reduceIte, decide_true, decide_false, Int.reduceLT, Int.reduceLE, Int.reduceMul, Int.reduceAdd, Int.reduceSub, List.append_eq, List.cons_append, List.nil_append, st7, st8, ma, mb, bin_str, bin_boolE, bin_time, bin_sattr, faA14, faA0, faA1, faA2, faA3, faA4, faA5, faA6, faA7, faA8, faA9, faA10, faA11, faA12, faA13, faA14, faA15, faA16, faA17, faA18, faA19, faA20, faA21, e0, e1, e2, e3, e4, e5, e6, e7])
      simp (disch := (first | (simp only [List.length_set, hl]; omega) | omega | rfl)) only [aRes_one Try.results15, sL]
      exact ⟨by simp [AR.eqR, e0, e1, e2, e3, e4, e5, e6, e7], sm8⟩
    cases e8 : (a.access == b.access)
    · skip
      repeat (first | (with_reducible refine Wp.st ?_; simp only [wS]) | with_reducible refine Wp.drawS (by decide +kernel) ?_ | simp (disch := (first | (simp only [List.length_set, hl]; omega) | omega | rfl)) only [walkA, walkB, bne_self_eq_false, beq_self_eq_true, Option.map_some, Option.map_none, reduceIte, decide_true, decide_false, Int.reduceLT, Int.reduceLE, Int.reduceMul, Int.reduceAdd, Int.reduceSub, List.append_eq, List.cons_append, List.nil_append, st7, st8, ma, mb, bin_str, bin_boolE, bin_time, bin_sattr, faA14, faA0, faA1, faA2, faA3, faA4, faA5, faA6, faA7, faA8, faA9, faA10, faA11, faA12, faA13, faA14, faA15, faA16, faA17, faA18, faA19, faA20, faA21, e0, e1, e2, e3, e4, e5, e6, e7, e8])
      simp (disch := (first | (simp only [List.length_set, hl]; omega) | omega | rfl)) only [aRes_one Try.results15, sL]
      exact ⟨by simp [AR.eqR, e0, e1, e2, e3, e4, e5, e6, e7, e8], sm8⟩
    cases e9 : (a.offset == b.offset)
    · skip
      repeat (first | (with_reducible refine Wp.st ?_; simp only [wS]) | with_reducible refine Wp.drawS (by decide +kernel) ?_ | simp (disch := (first | (simp only [List.length_set, hl]; omega) | omega | rfl)) only [walkA, walkB, bne_self_eq_false, beq_self_eq_true, Option.map_some, Option.map_none, reduceIte, decide_true, decide_false, Int.reduceLT, Int.reduceLE, Int.reduceMul, Int.reduceAdd, Int.reduceSub, List.append_eq, List.cons_append, List.nil_append, st7, st8, ma, mb, bin_str, bin_boolE, bin_time, bin_sattr, faA14, faA0, faA1, faA2, faA3, faA4, faA5, faA6, faA7, faA8, faA9, faA10, faA11, faA12, faA13, faA14, faA15, faA16, faA17, faA18, faA19, faA20, faA21, e0, e1, e2, e3, e4, e5, e6, e7, e8, e9])
      simp (disch := (first | (simp only [List.length_set, hl]; omega) | omega | rfl)) only [aRes_one Try.results15, sL]
      exact ⟨by simp [AR.eqR, e0, e1, e2, e3, e4, e5, e6, e7, e8, e9], sm8⟩
    cases e10 : (a.count == b.count)
    · skip
      repeat (first | (with_reducible refine Wp.st ?_; simp only [wS]) | with_reducible refine Wp.drawS (by decide +kernel) ?_ | simp (disch := (first | (simp only [List.length_set, hl]; omega) | omega | rfl)) only [walkA, walkB, bne_self_eq_false, beq_self_eq_true, Option.map_some, Option.map_none, reduceIte, decide_true, decide_false, Int.reduceLT, Int.reduceLE, Int.reduceMul, Int.reduceAdd, Int.reduceSub, List.append_eq, List.cons_append, List.nil_append, st7, st8, ma, mb, bin_str, bin_boolE, bin_time, bin_sattr, faA14, faA0, faA1, faA2, faA3, faA4, faA5, faA6, faA7, faA8, faA9, faA10, faA11, faA12, faA13, faA14, faA15, faA16, faA17, faA18, faA19, faA20, faA21, e0, e1, e2, e3, e4, e5, e6, e7, e8, e9, e10])
      simp (disch := (first | (simp only [List.length_set, hl]; omega) | omega | rfl)) only [aRes_one Try.results15, sL]
      exact ⟨by simp [AR.eqR, e0, e1, e2, e3, e4, e5, e6, e7, e8, e9, e10], sm8⟩
    cases e11 : (a.stable == b.stable)
    · skip
      repeat (first | (with_reducible refine Wp.st ?_; simp only [wS]) | with_reducible refine Wp.drawS (by decide +kernel) ?_ | simp (disch := (first | (simp only [List.length_set, hl]; omega) | omega | rfl)) only [walkA, walkB, bne_self_eq_false, beq_self_eq_true, Option.map_some, Option.map_none, reduceIte, decide_true, decide_false, Int.reduceLT, Int.reduceLE, Int.reduceMul, Int.reduceAdd, Int.reduceSub, List.append_eq, List.cons_append, List.nil_append, st7, st8, ma, mb, bin_str, bin_boolE, bin_time, bin_sattr, faA14, faA0, faA1, faA2, faA3, faA4, faA5, faA6, faA7, faA8, faA9, faA10, faA11, faA12, faA13, faA14, faA15, faA16, faA17, faA18, faA19, faA20, faA21, e0, e1, e2, e3, e4, e5, e6, e7, e8, e9, e10, e11])
      simp (disch := (first | (simp only [List.length_set, hl]; omega) | omega | rfl)) only [aRes_one Try.results15, sL]
      exact ⟨by simp [AR.eqR, e0, e1, e2, e3, e4, e5, e6, e7, e8, e9, e10, e11], sm8⟩
    cases e12 : (a.mode == b.mode)
    · skip
      repeat (first | (with_reducible refine Wp.st ?_; simp only [wS]) | with_reducible refine Wp.drawS (by decide +kernel) ?_ | simp (disch := (first | (simp only [List.length_set, hl]; omega) | omega | rfl)) only [walkA, walkB, bne_self_eq_false, beq_self_eq_true, Option.map_some, Option.map_none, reduceIte, decide_true, decide_false, Int.reduceLT, Int.reduceLE, Int.reduceMul, Int.reduceAdd, Int.reduceSub, List.append_eq, List.cons_append, List.nil_append, st7, st8, ma, mb, bin_str, bin_boolE, bin_time, bin_sattr, faA14, faA0, faA1, faA2, faA3, faA4, faA5, faA6, faA7, faA8, faA9, faA10, faA11, faA12, faA13, faA14, faA15, faA16, faA17, faA18, faA19, faA20, faA21, e0, e1, e2, e3, e4, e5, e6, e7, e8, e9, e10, e11, e12])
      simp (disch := (first | (simp only [List.length_set, hl]; omega) | omega | rfl)) only [aRes_one Try.results15, sL]
      exact ⟨by simp [AR.eqR, e0, e1, e2, e3, e4, e5, e6, e7, e8, e9, e10, e11, e12], sm8⟩
    cases e13 : (a.type == b.type)
    · skip
      repeat (first | (with_reducible refine Wp.st ?_; simp only [wS]) | with_reducible refine Wp.drawS (by decide +kernel) ?_ | simp (disch := (first | (simp only [List.length_set, hl]; omega) | omega | rfl)) only [walkA, walkB, bne_self_eq_false, beq_self_eq_true, Option.map_some, Option.map_none, reduceIte, decide_true, decide_false, Int.reduceLT, Int.reduceLE, Int.reduceMul, Int.reduceAdd, Int.reduceSub, List.append_eq, List.cons_append, List.nil_append, st7, st8, ma, mb, bin_str, bin_boolE, bin_time, bin_sattr, faA14, faA0, faA1, faA2, faA3, faA4, faA5, faA6, faA7, faA8, faA9, faA10, faA11, faA12, faA13, faA14, faA15, faA16, faA17, faA18, faA19, faA20, faA21, e0, e1, e2, e3, e4, e5, e6, e7, e8, e9, e10, e11, e12, e13])
      simp (disch := (first | (simp only [List.length_set, hl]; omega) | omega | rfl)) only [aRes_one Try.results15, sL]
      exact ⟨by simp [AR.eqR, e0, e1, e2, e3, e4, e5, e6, e7, e8, e9, e10, e11, e12, e13], sm8⟩
    cases e14 : (a.verf == b.verf)
    · skip
      repeat (first | (with_reducible refine Wp.st ?_; simp only [wS]) | with_reducible refine Wp.drawS (by decide +kernel) ?_ | simp (disch := (first | (simp only [List.length_set, hl]; omega) | omega | rfl)) only [walkA, walkB, bne_self_eq_false, beq_self_eq_true, Option.map_some, Option.map_none, reduceIte, decide_true, decide_false, Int.reduceLT, Int.reduceLE, Int.reduceMul, Int.reduceAdd, Int.reduceSub, List.append_eq, List.cons_append, List.nil_append, st7, st8, ma, mb, bin_str, bin_boolE, bin_time, bin_sattr, faA14, faA0, faA1, faA2, faA3, faA4, faA5, faA6, faA7, faA8, faA9, faA10, faA11, faA12, faA13, faA14, faA15, faA16, faA17, faA18, faA19, faA20, faA21, e0, e1, e2, e3, e4, e5, e6, e7, e8, e9, e10, e11, e12, e13, e14])
      simp (disch := (first | (simp only [List.length_set, hl]; omega) | omega | rfl)) only [aRes_one Try.results15, sL]
      exact ⟨by simp [AR.eqR, e0, e1, e2, e3, e4, e5, e6, e7, e8, e9, e10, e11, e12, e13, e14], sm8⟩
    cases e15 : (a.cookie == b.cookie)
    · skip
      repeat (first | (with_reducible refine Wp.st ?_; simp only [wS]) | with_reducible refine Wp.drawS (by decide +kernel) ?_ | simp (disch := (first | (simp only [List.length_set, hl]; omega) | omega | rfl)) only [walkA, walkB, bne_self_eq_false, beq_self_eq_true, Option.map_some, Option.map_none, reduceIte, decide_true, decide_false, Int.reduceLT, Int.reduceLE, Int.reduceMul, Int.reduceAdd, Int.reduceSub, List.append_eq, List.cons_append, List.nil_append, st7, st8, ma, mb, bin_str, bin_boolE, bin_time, bin_sattr, faA14, faA0, faA1, faA2, faA3, faA4, faA5, faA6, faA7, faA8, faA9, faA10, faA11, faA12, faA13, faA14, faA15, faA16, faA17, faA18, faA19, faA20, faA21, e0, e1, e2, e3, e4, e5, e6, e7, e8, e9, e10, e11, e12, e13, e14, e15])
      simp (disch := (first | (simp only [List.length_set, hl]; omega) | omega | rfl)) only [aRes_one Try.results15, sL]
      exact ⟨by simp [AR.eqR, e0, e1, e2, e3, e4, e5, e6, e7, e8, e9, e10, e11, e12, e13, e14, e15], sm8⟩
    cases e16 : (a.cookieVerf == b.cookieVerf)
    · skip
      repeat (first | (with_reducible refine Wp.st ?_; simp only [wS]) | with_reducible refine Wp.drawS (by decide +kernel) ?_ | simp (disch := (first | (simp only [List.length_set, hl]; omega) | omega | rfl)) only [walkA, walkB, bne_self_eq_false, beq_self_eq_true, Option.map_some, Option.map_none, reduceIte, decide_true, decide_false, Int.reduceLT, Int.reduceLE, Int.reduceMul, Int.reduceAdd, Int.reduceSub, List.append_eq, List.cons_append, List.nil_append, st7, st8, ma, mb, bin_str, bin_boolE, bin_time, bin_sattr, faA14, faA0, faA1, faA2, faA3, faA4, faA5, faA6, faA7, faA8, faA9, faA10, faA11, faA12, faA13, faA14, faA15, faA16, faA17, faA18, faA19, faA20, faA21, e0, e1, e2, e3, e4, e5, e6, e7, e8, e9, e10, e11, e12, e13, e14, e15, e16])
      simp (disch := (first | (simp only [List.length_set, hl]; omega) | omega | rfl)) only [aRes_one Try.results15, sL]
      exact ⟨by simp [AR.eqR, e0, e1, e2, e3, e4, e5, e6, e7, e8, e9, e10, e11, e12, e13, e14, e15, e16], sm8⟩
    cases e17 : (a.dirCount == b.dirCount)
    · skip
      repeat (first | (with_reducible refine Wp.st ?_; simp only [wS]) | with_reducible refine Wp.drawS (by decide +kernel) ?_ | simp (disch := (first | (simp only [List.length_set, hl]; omega) | omega | rfl)) only [walkA, walkB, bne_self_eq_false, beq_self_eq_true, Option.map_some, Option.map_none, reduceIte, decide_true, decide_false, Int.reduceLT, Int.reduceLE, Int.reduceMul, Int.reduceAdd, Int.reduceSub, List.append_eq, List.cons_append, List.nil_append, st7, st8, ma, mb, bin_str, bin_boolE, bin_time, bin_sattr, faA14, faA0, faA1, faA2, faA3, faA4, faA5, faA6, faA7, faA8, faA9, faA10, faA11, faA12, faA13, faA14, faA15, faA16, faA17, faA18, faA19, faA20, faA21, e0, e1, e2, e3, e4, e5, e6, e7, e8, e9, e10, e11, e12, e13, e14, e15, e16, e17])
      simp (disch := (first | (simp only [List.length_set, hl]; omega) | omega | rfl)) only [aRes_one Try.results15, sL]
      exact ⟨by simp [AR.eqR, e0, e1, e2, e3, e4, e5, e6, e7, e8, e9, e10, e11, e12, e13, e14, e15, e16, e17], sm8⟩
    cases e18 : (a.maxCount == b.maxCount)
    · skip
      repeat (first | (with_reducible refine Wp.st ?_; simp only [wS]) | with_reducible refine Wp.drawS (by decide +kernel) ?_ | simp (disch := (first | (simp only [List.length_set, hl]; omega) | omega | rfl)) only [walkA, walkB, bne_self_eq_false, beq_self_eq_true, Option.map_some, Option.map_none, reduceIte, decide_true, decide_false, Int.reduceLT, Int.reduceLE, Int.reduceMul, Int.reduceAdd, Int.reduceSub, List.append_eq, List.cons_append, List.nil_append, st7, st8, ma, mb, bin_str, bin_boolE, bin_time, bin_sattr, faA14, faA0, faA1, faA2, faA3, faA4, faA5, faA6, faA7, faA8, faA9, faA10, faA11, faA12, faA13, faA14, faA15, faA16, faA17, faA18, faA19, faA20, faA21, e0, e1, e2, e3, e4, e5, e6, e7, e8, e9, e10, e11, e12, e13, e14, e15, e16, e17, e18])
      simp (disch := (first | (simp only [List.length_set, hl]; omega) | omega | rfl)) only [aRes_one Try.results15, sL]
      exact ⟨by simp [AR.eqR, e0, e1, e2, e3, e4, e5, e6, e7, e8, e9, e10, e11, e12, e13, e14, e15, e16, e17, e18], sm8⟩
    cases e19 : (a.spec1 == b.spec1)
    · skip
      repeat (first | (with_reducible refine Wp.st ?_; simp only [wS]) | with_reducible refine Wp.drawS (by decide +kernel) ?_ | simp (disch := (first | (simp only [List.length_set, hl]; omega) | omega | rfl)) only [walkA, walkB, bne_self_eq_false, beq_self_eq_true, Option.map_some, Option.map_none, reduceIte, decide_true, decide_false, Int.reduceLT, Int.reduceLE, Int.reduceMul, Int.reduceAdd, Int.reduceSub, List.append_eq, List.cons_append, List.nil_append, st7, st8, ma, mb, bin_str, bin_boolE, bin_time, bin_sattr, faA14, faA0, faA1, faA2, faA3, faA4, faA5, faA6, faA7, faA8, faA9, faA10, faA11, faA12, faA13, faA14, faA15, faA16, faA17, faA18, faA19, faA20, faA21, e0, e1, e2, e3, e4, e5, e6, e7, e8, e9, e10, e11, e12, e13, e14, e15, e16, e17, e18, e19])
      simp (disch := (first | (simp only [List.length_set, hl]; omega) | omega | rfl)) only [aRes_one Try.results15, sL]
      exact ⟨by simp [AR.eqR, e0, e1, e2, e3, e4, e5, e6, e7, e8, e9, e10, e11, e12, e13, e14, e15, e16, e17, e18, e19], sm8⟩
    cases e20 : (a.spec2 == b.spec2)
    · skip
      repeat (first | (with_reducible refine Wp.st ?_; simp only [wS]) | with_reducible refine Wp.drawS (by decide +kernel) ?_ | simp (disch := (first | (simp only [List.length_set, hl]; omega) | omega | rfl)) only [walkA, walkB, bne_self_eq_false, beq_self_eq_true, Option.map_some, Option.map_none, reduceIte, decide_true, decide_false, Int.reduceLT, Int.reduceLE, Int.reduceMul, Int.reduceAdd, Int.reduceSub, List.append_eq, List.cons_append, List.nil_append, st7, st8, ma, mb, bin_str, bin_boolE, bin_time, bin_sattr, faA14, faA0, faA1, faA2, faA3, faA4, faA5, faA6, faA7, faA8, faA9, faA10, faA11, faA12, faA13, faA14, faA15, faA16, faA17, faA18, faA19, faA20, faA21, e0, e1, e2, e3, e4, e5, e6, e7, e8, e9, e10, e11, e12, e13, e14, e15, e16, e17, e18, e19, e20])
      simp (disch := (first | (simp only [List.length_set, hl]; omega) | omega | rfl)) only [aRes_one Try.results15, sL]
      exact ⟨by simp [AR.eqR, e0, e1, e2, e3, e4, e5, e6, e7, e8, e9, e10, e11, e12, e13, e14, e15, e16, e17, e18, e19, e20], sm8⟩
    repeat (first | (with_reducible refine Wp.st ?_; simp only [wS]) | with_reducible refine Wp.drawS (by decide +kernel) ?_ | simp (disch := (first | (simp only [List.length_set, hl]; omega) | omega | rfl)) only [walkA, walkB, bne_self_eq_false, beq_self_eq_true, Option.map_some, Option.map_none, reduceIte, decide_true, decide_false, Int.reduceLT, Int.reduceLE, Int.reduceMul, Int.reduceAdd, Int.reduceSub, List.append_eq, List.cons_append, List.nil_append, st7, st8, ma, mb, bin_str, bin_boolE, bin_time, bin_sattr, faA14, faA0, faA1, faA2, faA3, faA4, faA5, faA6, faA7, faA8, faA9, faA10, faA11, faA12, faA13, faA14, faA15, faA16, faA17, faA18, faA19, faA20, faA21, e0, e1, e2, e3, e4, e5, e6, e7, e8, e9, e10, e11, e12, e13, e14, e15, e16, e17, e18, e19, e20])
    simp (disch := (first | (simp only [List.length_set, hl]; omega) | omega | rfl)) only [aRes_one Try.results15, sL]
    exact ⟨by simp [AR.eqR, e0, e1, e2, e3, e4, e5, e6, e7, e8, e9, e10, e11, e12, e13, e14, e15, e16, e17, e18, e19, e20], sm8⟩
end Go.Proofs.Ytanknjpcgceccaa

namespace Go.Proofs.Ytanknjpcgceccaa
open Go Go.AM
set_option linter.unusedSimpArgs false
set_option maxRecDepth 100000
attribute [local irreducible] WOps WV WH WSt WNil WPick WGd
theorem AR.eq_of (a b : AR) {xa ya : List Int} (ea : a.data = xa.map (Value.int .u8)) (eb : b.data = ya.map (Value.int .u8)) (sa : ∃ s, a.data = strB s) (sb : ∃ s, b.data = strB s) : (decide (xa = ya) && a.eqR b) = a.eq b := by
  rw [dec_dat ea eb sa sb]
  unfold AR.eqR AR.eq
  ac_rfl
theorem AR.eq_refl (a : AR) : a.eq a = true := AR.eq_dv a a.dv a.dv
theorem AT.eq_refl (x : AT) : x.eq x = true := by simp [AT.eq, eqT]
theorem PO.eq_refl (x : PO) : x.eq x = true := by simp [PO.eq, AT.eq_refl]
theorem WC.eq_refl (x : WC) : x.eq x = true := by simp [WC.eq, eqT]
theorem EN.eq_refl (x : EN) : x.eq x = true := by simp [EN.eq, PO.eq_refl]
theorem enEq_refl : ∀ l : List EN, enEq l l = true
  | [] => rfl
  | x :: l => by simp [enEq, EN.eq_refl, enEq_refl l]
theorem RR.eq_refl (x : RR) : x.eq x = true := by simp [RR.eq, PO.eq_refl, WC.eq_refl, enEq_refl]
end Go.Proofs.Ytanknjpcgceccaa
