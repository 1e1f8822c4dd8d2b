/- Bytes as strings, over the abstract machine. -/
import Derived.Test.YtanknjpcgceccaaArgs1
import Derived.ChangeArms
import Derived.ChangeSlices
import Derived.ProofKit

namespace Go.Proofs.Ytanknjpcgceccaa
open Go Go.AM
set_option maxRecDepth 100000
def strS (bs : List Value) : ByteArray := match intsOf bs with
  | some ns => strOfNums ns
  | none => .empty
def isB (bs : List Value) : Prop := ∃ ns, intsOf bs = some ns
theorem conv_row {h : Heap} {v : Value} {bs : List Value} (r : Row h v bs) (hb : isB bs) : aConv Try.prog h 22 9 v = some (.string (strS bs), h) := by
  obtain ⟨ns, hn⟩ := hb
  have e0 : strS [] = .empty := by rfl
  rcases r with ⟨rfl, rfl⟩ | ⟨rfl, k, off, c, rfl⟩ | ⟨k, off, cap, cs, el, ro, rfl, hg, h1, h2⟩
  · simp only [aConv, Try.underlying22, Try.underlying9, Try.underlying5, e0]
  · simp only [aConv, Try.underlying22, Try.underlying9, Try.underlying5, e0, Nat.beq_refl, cond_true]
  · simp only [aConv, Try.underlying22, Try.underlying9, Try.underlying5]
    cases hz : Nat.beq bs.length 0 with
    | true =>
      have := List.eq_nil_of_length_eq_zero (Nat.eq_of_beq_eq_true hz)
      subst this
      rw [cond_true, e0]
    | false =>
      have hr : rdN h k off bs.length = some bs := by
        simp only [rdN, hg, ble_iff.2 h1, cond_true, h2]
      simp only [cond_false, hr, hn, strS]
theorem conv_self {h : Heap} {k off n c : Nat} {cs : List Value} {el : TypeId} (hg : h.get k = some (.cells cs el false)) (hc : Nat.beq c 2535301200456458802993406410752 = false) : aConv Try.prog h 22 22 (.slice (some ⟨k, off, none⟩) n c) = some (.slice (some ⟨k, off, none⟩) n c, h) := by
  have e : Nat.beq 22 22 = true := rfl
  simp [aConv, Try.underlying22, Try.underlying5, hg, hc, e]
theorem str_eq {x y : ByteArray} {xo yo : Operand} : aBin Try.prog .eql 9 xo yo (.string x) (.string y) = some (.bool (x.data.toList == y.data.toList)) := rfl
theorem str_neq {x y : ByteArray} {xo yo : Operand} : aBin Try.prog .neq 9 xo yo (.string x) (.string y) = some (.bool (!(x.data.toList == y.data.toList))) := rfl
theorem intsOf_append : ∀ (a b : List Value) (x y : List Int), intsOf a = some x → intsOf b = some y → intsOf (a ++ b) = some (x ++ y)
  | [], b, x, y, ha, hb => by injection ha with ha; subst ha; exact hb
  | v :: a, b, x, y, ha, hb => by
    simp only [intsOf] at ha
    split at ha
    · rename_i n
      split at ha
      · rename_i r hr
        injection ha with ha; subst ha
        simp only [List.cons_append, intsOf, intsOf_append a b r y hr hb]
      · cases ha
    · cases ha
theorem isB.append {a b : List Value} (ha : isB a) (hb : isB b) : isB (a ++ b) := by
  obtain ⟨x, hx⟩ := ha; obtain ⟨y, hy⟩ := hb
  exact ⟨_, intsOf_append a b x y hx hy⟩
theorem isB.nil : isB [] := ⟨[], rfl⟩
theorem isB.cons {n : Int} {b : List Value} (hb : isB b) : isB (.int .u8 n :: b) := by
  obtain ⟨y, hy⟩ := hb
  exact ⟨n :: y, by simp only [intsOf, hy]⟩
theorem isB.beTo (v : Int) : ∀ n, isB (beTo v n)
  | 0 => .nil
  | n + 1 => .cons (isB.beTo v n)
theorem isB_ints' : ∀ xs : List Int, isB (xs.map (Value.int .u8))
  | [] => isB.nil
  | _ :: xs => isB.cons (isB_ints' xs)
theorem isB.noughts : ∀ n, isB (List.replicate n (.int .u8 0))
  | 0 => .nil
  | n + 1 => by rw [List.replicate_succ]; exact .cons (isB.noughts n)
theorem isB.all {a : List Value} (ha : isB a) : a.all Value.oneCell' = true := by
  obtain ⟨x, hx⟩ := ha
  rw [intsOf_eq a x hx]
  simp [Value.oneCell']
end Go.Proofs.Ytanknjpcgceccaa

namespace Go.Proofs.Ytanknjpcgceccaa
open Go Go.AM
set_option maxRecDepth 100000
theorem cut_am (n p : Nat) (hn : n = 4 ∨ n = 8) (bv : Value) (vs : List Value) (h : Heap) (hr : RowX h 5 bv vs) (hlen : vs.length ≤ 1000000000) (hp : p ≤ vs.length) :
    Cl Try.prog 104 [bv, .int .i64 p, .int .i64 n] h fun v h' => h' = h ∧ ((p + n ≤ vs.length ∧ ∃ v', v = .tuple #[v', .int .i64 0] ∧ RowX h 5 v' ((vs.drop p).take n)) ∨ (¬ p + n ≤ vs.length ∧ v = .tuple #[.slice none 0 0, .int .i64 11])) := by
  refine Cl.enter Try.func104 rfl 29 Try.ntmps104 (by simp) ?_
  intro env hl ha
  have h0 : sl env 0 = bv := ha 0 (by simp)
  have h1 : sl env 1 = .int .i64 p := ha 1 (by simp)
  have h2 : sl env 2 = .int .i64 n := ha 2 (by simp)
  clear ha
  repeat (first | (with_reducible refine Wp.st ?_; simp only [wS]) | with_reducible refine Wp.drawS (by decide +kernel) ?_ | simp (disch := (first | (simp only [List.length_set, hl]; omega) | (simp only [List.length_set, el]; omega) | omega | rfl)) only [walkA, walkB, bne_self_eq_false, beq_self_eq_true, Option.map_some, Option.map_none, reduceIte, decide_true, decide_false, Int.reduceLT, Int.reduceLE, Int.reduceMul, Int.reduceAdd, Int.reduceSub, h0, h1, h2])
  refine (size_am n h).mono ?_
  rintro v h' ⟨rfl, rfl⟩
  have e1 : decide ((n : Int) = 1 ∨ (n : Int) = 2 ∨ (n : Int) = 4 ∨ (n : Int) = 8) = true := by simp; omega
  repeat (first | (with_reducible refine Wp.st ?_; simp only [wS]) | with_reducible refine Wp.drawS (by decide +kernel) ?_ | simp (disch := (first | (simp only [List.length_set, hl]; omega) | (simp only [List.length_set, el]; omega) | omega | rfl)) only [walkA, walkB, bne_self_eq_false, beq_self_eq_true, Option.map_some, Option.map_none, reduceIte, decide_true, decide_false, Int.reduceLT, Int.reduceLE, Int.reduceMul, Int.reduceAdd, Int.reduceSub, h0, h1, h2, e1])
  refine Wp.cond_false (by (simp (disch := (first | (simp only [List.length_set, hl]; omega) | (simp only [List.length_set, el]; omega) | omega | rfl)) only [sL, aEval_tmp])) ?_
  have hl2 := len_any hr.row Try.underlying22
  have e2 : decide ((p : Int) < 0) = false := by simp
  by_cases hle : p + n ≤ vs.length
  · have e3 : decide ((p : Int) > (vs.length : Int) - (n : Int)) = false := by simp; omega
    obtain ⟨v', hsl, hrow, _⟩ := hr.slice (P := Try.prog) Try.underlying22 i5 rfl (kl := .i64) (kh := .i64) (lo := p) (hi' := p + n) (by omega) hle
    rw [Nat.add_sub_cancel_left] at hrow
    have e4 : ((p + n : Nat) : Int) = (p : Int) + (n : Int) := by omega
    rw [e4] at hsl
    repeat (first | (with_reducible refine Wp.st ?_; simp only [wS]) | with_reducible refine Wp.drawS (by decide +kernel) ?_ | simp (disch := (first | (simp only [List.length_set, hl]; omega) | (simp only [List.length_set, el]; omega) | omega | rfl)) only [walkA, walkB, bne_self_eq_false, beq_self_eq_true, Option.map_some, Option.map_none, reduceIte, decide_true, decide_false, Int.reduceLT, Int.reduceLE, Int.reduceMul, Int.reduceAdd, Int.reduceSub, h0, h1, h2, e1, e2, e3, hl2])
    refine Wp.cond_false (by (simp (disch := (first | (simp only [List.length_set, hl]; omega) | (simp only [List.length_set, el]; omega) | omega | rfl)) only [sL, aEval_tmp])) ?_
    repeat (first | (with_reducible refine Wp.st ?_; simp only [wS]) | with_reducible refine Wp.drawS (by decide +kernel) ?_ | simp (disch := (first | (simp only [List.length_set, hl]; omega) | (simp only [List.length_set, el]; omega) | omega | rfl)) only [walkA, walkB, bne_self_eq_false, beq_self_eq_true, Option.map_some, Option.map_none, reduceIte, decide_true, decide_false, Int.reduceLT, Int.reduceLE, Int.reduceMul, Int.reduceAdd, Int.reduceSub, h0, h1, h2, WOps_slice2, hsl])
    simp (disch := (first | (simp only [List.length_set, hl]; omega) | omega | rfl)) only [aRes_two Try.results104, sL]
    exact ⟨trivial, .inl ⟨hle, v', rfl, hrow⟩⟩
  · have e3 : decide ((p : Int) > (vs.length : Int) - (n : Int)) = true := by simp; omega
    repeat (first | (with_reducible refine Wp.st ?_; simp only [wS]) | with_reducible refine Wp.drawS (by decide +kernel) ?_ | simp (disch := (first | (simp only [List.length_set, hl]; omega) | (simp only [List.length_set, el]; omega) | omega | rfl)) only [walkA, walkB, bne_self_eq_false, beq_self_eq_true, Option.map_some, Option.map_none, reduceIte, decide_true, decide_false, Int.reduceLT, Int.reduceLE, Int.reduceMul, Int.reduceAdd, Int.reduceSub, h0, h1, h2, e1, e2, e3, hl2])
    refine Wp.cond_true (by (simp (disch := (first | (simp only [List.length_set, hl]; omega) | (simp only [List.length_set, el]; omega) | omega | rfl)) only [sL, aEval_tmp])) ?_
    repeat (first | (with_reducible refine Wp.st ?_; simp only [wS]) | with_reducible refine Wp.drawS (by decide +kernel) ?_ | simp (disch := (first | (simp only [List.length_set, hl]; omega) | (simp only [List.length_set, el]; omega) | omega | rfl)) only [walkA, walkB, bne_self_eq_false, beq_self_eq_true, Option.map_some, Option.map_none, reduceIte, decide_true, decide_false, Int.reduceLT, Int.reduceLE, Int.reduceMul, Int.reduceAdd, Int.reduceSub, h0, h1, h2])
    simp (disch := (first | (simp only [List.length_set, hl]; omega) | omega | rfl)) only [aRes_two Try.results104, sL]
    exact ⟨trivial, .inr ⟨hle, trivial⟩⟩
def stepV (v b : Int) : Int := IntKind.u64.wrap ((BitVec.ofInt IntKind.u64.bits (IntKind.u64.wrap (v * 2 ^ (min (8 : Int).toNat IntKind.u64.bits))) ||| BitVec.ofInt IntKind.u64.bits (IntKind.u64.wrap b)).toNat : Int)
def beF (v : Int) : List Int → Int
  | [] => v
  | b :: bs => beF (stepV v b) bs
theorem beF_append (v : Int) (a b : List Int) : beF v (a ++ b) = beF (beF v a) b := by
  induction a generalizing v with
  | nil => rfl
  | cons x a ih => exact ih _
theorem beF_take (v : Int) (bs : List Int) (j : Nat) (hj : j < bs.length) : beF v (bs.take (j + 1)) = stepV (beF v (bs.take j)) bs[j] := by
  rw [List.take_succ_eq_append_getElem hj, beF_append]; rfl
def beR (bs : List Int) (p n : Nat) : Value := if p + n ≤ bs.length then .tuple #[.int .u64 (beF 0 ((bs.drop p).take n)), .int .i64 0] else .tuple #[.int .u64 0, .int .i64 11]
theorem be_am (n p : Nat) (hn : n = 4 ∨ n = 8) (bv : Value) (bs : List Int) (h : Heap) (hr : RowX h 5 bv (bs.map (Value.int .u8))) (hlen : bs.length ≤ 1000000000) (hp : p ≤ bs.length) :
    Cl Try.prog 102 [bv, .int .i64 p, .int .i64 n] h fun v h' => h' = h ∧ v = beR bs p n := by
  refine Cl.enter Try.func102 rfl 34 Try.ntmps102 (by simp) ?_
  intro env hl ha
  have h0 : sl env 0 = bv := ha 0 (by simp)
  have h1 : sl env 1 = .int .i64 p := ha 1 (by simp)
  have h2 : sl env 2 = .int .i64 n := ha 2 (by simp)
  clear ha
  repeat (first | (with_reducible refine Wp.st ?_; simp only [wS]) | with_reducible refine Wp.drawS (by decide +kernel) ?_ | simp (disch := (first | (simp only [List.length_set, hl]; omega) | (simp only [List.length_set, el]; omega) | omega | rfl)) only [walkA, walkB, bne_self_eq_false, beq_self_eq_true, Option.map_some, Option.map_none, reduceIte, decide_true, decide_false, Int.reduceLT, Int.reduceLE, Int.reduceMul, Int.reduceAdd, Int.reduceSub, h0, h1, h2])
  refine (cut_am n p hn bv _ h hr (by simpa using hlen) (by simpa using hp)).mono ?_
  rintro v h' ⟨rfl, hv⟩
  obtain ⟨row, er, rs, rfl, hrow, hres⟩ : ∃ (row : Value) (er : Int) (rs : List Int), v = .tuple #[row, .int .i64 er] ∧ Row h' row (rs.map (Value.int .u8)) ∧ rs.length ≤ 8 ∧ beR bs p n = .tuple #[.int .u64 (beF 0 rs), .int .i64 er] := by
    rcases hv with ⟨hle, v', rfl, hx⟩ | ⟨hle, rfl⟩
    · simp only [List.length_map] at hle
      refine ⟨v', 0, (bs.drop p).take n, rfl, ?_, by rw [List.length_take]; omega, by unfold beR; rw [if_pos hle]⟩
      have := hx.row
      rwa [← List.map_drop, ← List.map_take] at this
    · simp only [List.length_map] at hle
      exact ⟨.slice none 0 0, 11, [], rfl, .inl ⟨rfl, rfl⟩, by simp, by unfold beR; rw [if_neg hle]; rfl⟩
  obtain ⟨hrl, hres⟩ := hres
  have x0 : aExtract (.tuple #[row, .int .i64 er]) 0 = some row := rfl
  have x1 : aExtract (.tuple #[row, .int .i64 er]) 1 = some (.int .i64 er) := rfl
  have hl2 := len_any hrow Try.underlying22
  repeat (first | (with_reducible refine Wp.st ?_; simp only [wS]) | with_reducible refine Wp.drawS (by decide +kernel) ?_ | simp (disch := (first | (simp only [List.length_set, hl]; omega) | (simp only [List.length_set, el]; omega) | omega | rfl)) only [walkA, walkB, bne_self_eq_false, beq_self_eq_true, Option.map_some, Option.map_none, reduceIte, decide_true, decide_false, Int.reduceLT, Int.reduceLE, Int.reduceMul, Int.reduceAdd, Int.reduceSub, h0, h1, h2, x0, x1, hl2])
  refine Wp.loop (fun m e hh => ∃ j : Nat, j + m = rs.length ∧ e.length = 34 ∧ sl e 9 = .int .i64 er ∧ sl e 10 = .int .u64 (beF 0 (rs.take j)) ∧ sl e 20 = row ∧ sl e 21 = .int .i64 rs.length ∧ sl e 22 = .int .i64 j ∧ hh = h') rs.length
    ⟨0, by omega, by simp [hl], by (simp (disch := (first | (simp only [List.length_set, hl]; omega) | (simp only [List.length_set, el]; omega) | omega | rfl)) only [sL]), by (simp (disch := (first | (simp only [List.length_set, hl]; omega) | (simp only [List.length_set, el]; omega) | omega | rfl)) only [sL]); rfl, by (simp (disch := (first | (simp only [List.length_set, hl]; omega) | (simp only [List.length_set, el]; omega) | omega | rfl)) only [sL]), by (simp (disch := (first | (simp only [List.length_set, hl]; omega) | (simp only [List.length_set, el]; omega) | omega | rfl)) only [sL, List.length_map]), by (simp (disch := (first | (simp only [List.length_set, hl]; omega) | (simp only [List.length_set, el]; omega) | omega | rfl)) only [sL]); rfl, rfl⟩ ?_
  clear h0 h1 h2 hl env hl2 x0 x1
  rintro m e hh ⟨j, hj, el, e9, e10, e20, e21, e22, rfl⟩
  repeat (first | (with_reducible refine Wp.st ?_; simp only [wS]) | with_reducible refine Wp.drawS (by decide +kernel) ?_ | simp (disch := (first | (simp only [List.length_set, hl]; omega) | (simp only [List.length_set, el]; omega) | omega | rfl)) only [walkA, walkB, bne_self_eq_false, beq_self_eq_true, Option.map_some, Option.map_none, reduceIte, decide_true, decide_false, Int.reduceLT, Int.reduceLE, Int.reduceMul, Int.reduceAdd, Int.reduceSub, e9, e10, e20, e21, e22])
  by_cases hlt : j < rs.length
  · refine Wp.cond_true (by (simp (disch := (first | (simp only [List.length_set, hl]; omega) | (simp only [List.length_set, el]; omega) | omega | rfl)) only [sL, aEval_tmp]); simpa using hlt) ?_
    obtain ⟨k, off, hx1, hx2⟩ := hrow.index (P := Try.prog) Try.underlying22 i5 rfl (j := j) (kd := .i64) (by simpa using hlt)
    rw [← aLoad_one (P := Try.prog) Try.underlying5 (by simp) (by simp), List.getElem_map] at hx2
    have hcv := fun x hx => conv_int (h := hx) (k' := .u8) (n := x) Try.underlying5 Try.underlying24
    repeat (first | (with_reducible refine Wp.st ?_; simp only [wS]) | with_reducible refine Wp.drawS (by decide +kernel) ?_ | simp (disch := (first | (simp only [List.length_set, hl]; omega) | (simp only [List.length_set, el]; omega) | omega | rfl)) only [walkA, walkB, bne_self_eq_false, beq_self_eq_true, Option.map_some, Option.map_none, reduceIte, decide_true, decide_false, Int.reduceLT, Int.reduceLE, Int.reduceMul, Int.reduceAdd, Int.reduceSub, e9, e10, e20, e21, e22, hx1, hx2, hcv])
    exact ⟨m - 1, by omega, j + 1, by omega, by simp [el], by (simp (disch := (first | (simp only [List.length_set, hl]; omega) | (simp only [List.length_set, el]; omega) | omega | rfl)) only [sL, e9]), by rw [beF_take _ _ _ hlt]; first | rfl | ((simp (disch := (first | (simp only [List.length_set, hl]; omega) | (simp only [List.length_set, el]; omega) | omega | rfl)) only [sL]); rfl), by (simp (disch := (first | (simp only [List.length_set, hl]; omega) | (simp only [List.length_set, el]; omega) | omega | rfl)) only [sL, e20]), by (simp (disch := (first | (simp only [List.length_set, hl]; omega) | (simp only [List.length_set, el]; omega) | omega | rfl)) only [sL, e21]), by (simp (disch := (first | (simp only [List.length_set, hl]; omega) | (simp only [List.length_set, el]; omega) | omega | rfl)) only [sL, Int.natCast_add]); rfl, trivial⟩
  · refine Wp.cond_false (by (simp (disch := (first | (simp only [List.length_set, hl]; omega) | (simp only [List.length_set, el]; omega) | omega | rfl)) only [sL, aEval_tmp]); simpa using hlt) ?_
    have hjl : j = rs.length := by omega
    subst hjl
    rw [List.take_length] at e10
    repeat (first | (with_reducible refine Wp.st ?_; simp only [wS]) | with_reducible refine Wp.drawS (by decide +kernel) ?_ | simp (disch := (first | (simp only [List.length_set, hl]; omega) | (simp only [List.length_set, el]; omega) | omega | rfl)) only [walkA, walkB, bne_self_eq_false, beq_self_eq_true, Option.map_some, Option.map_none, reduceIte, decide_true, decide_false, Int.reduceLT, Int.reduceLE, Int.reduceMul, Int.reduceAdd, Int.reduceSub, e9, e10, e20, e21, e22])
    simp (disch := (first | (simp only [List.length_set, el]; omega) | omega | rfl)) only [aRes_two Try.results102, sL]
    rw [hres]
    trivial
end Go.Proofs.Ytanknjpcgceccaa

namespace Go.Proofs.Ytanknjpcgceccaa
open Go Go.AM
set_option maxRecDepth 100000
theorem refSize_am (n : Int) (hn : n = 4 ∨ n = 8) (h : Heap) : Cl Try.prog 99 [.int .i64 n] h fun v h' => h' = h ∧ v = .bool true := by
  refine Cl.enter Try.func99 rfl 17 Try.ntmps99 (by simp) ?_
  intro env hl ha
  have h0 : sl env 0 = .int .i64 n := ha 0 (by simp)
  clear ha
  have e1 : (n == 1) = false := by simp; omega
  have e2 : (n == 2) = false := by simp; omega
  rcases hn with rfl | rfl
  · have e4 : ((4 : Int) == 4) = true := rfl
    repeat (first | (with_reducible refine Wp.st ?_; simp only [wS]) | with_reducible refine Wp.drawS (by decide +kernel) ?_ | simp (disch := (first | (simp only [List.length_set, hl]; omega) | (simp only [List.length_set, el]; omega) | omega | rfl)) only [walkA, walkB, bne_self_eq_false, beq_self_eq_true, Option.map_some, Option.map_none, reduceIte, decide_true, decide_false, Int.reduceLT, Int.reduceLE, Int.reduceMul, Int.reduceAdd, Int.reduceSub, h0, e1, e2, e4])
    (simp (disch := (first | (simp only [List.length_set, hl]; omega) | (simp only [List.length_set, el]; omega) | omega | rfl)) only [aRes_one Try.results99, sL, and_self, and_true, true_and])
  · have e4 : ((8 : Int) == 4) = false := rfl
    have e8 : ((8 : Int) == 8) = true := rfl
    repeat (first | (with_reducible refine Wp.st ?_; simp only [wS]) | with_reducible refine Wp.drawS (by decide +kernel) ?_ | simp (disch := (first | (simp only [List.length_set, hl]; omega) | (simp only [List.length_set, el]; omega) | omega | rfl)) only [walkA, walkB, bne_self_eq_false, beq_self_eq_true, Option.map_some, Option.map_none, reduceIte, decide_true, decide_false, Int.reduceLT, Int.reduceLE, Int.reduceMul, Int.reduceAdd, Int.reduceSub, h0, e1, e2, e4, e8])
    (simp (disch := (first | (simp only [List.length_set, hl]; omega) | (simp only [List.length_set, el]; omega) | omega | rfl)) only [aRes_one Try.results99, sL, and_self, and_true, true_and])
theorem refBe_am (n p : Nat) (hn : n = 4 ∨ n = 8) (bv : Value) (bs : List Int) (h : Heap) (hr : Row h bv (bs.map (Value.int .u8))) (hlen : bs.length ≤ 1000000000) (hp : p ≤ bs.length) :
    Cl Try.prog 83 [bv, .int .i64 p, .int .i64 n] h fun v h' => h' = h ∧ v = beR bs p n := by
  refine Cl.enter Try.func83 rfl 45 Try.ntmps83 (by simp) ?_
  intro env hl ha
  have h0 : sl env 0 = bv := ha 0 (by simp)
  have h1 : sl env 1 = .int .i64 p := ha 1 (by simp)
  have h2 : sl env 2 = .int .i64 n := ha 2 (by simp)
  clear ha
  repeat (first | (with_reducible refine Wp.st ?_; simp only [wS]) | with_reducible refine Wp.drawS (by decide +kernel) ?_ | simp (disch := (first | (simp only [List.length_set, hl]; omega) | (simp only [List.length_set, el]; omega) | omega | rfl)) only [walkA, walkB, bne_self_eq_false, beq_self_eq_true, Option.map_some, Option.map_none, reduceIte, decide_true, decide_false, Int.reduceLT, Int.reduceLE, Int.reduceMul, Int.reduceAdd, Int.reduceSub, h0, h1, h2])
  refine (refSize_am n (by omega) h).mono ?_
  rintro v h' ⟨rfl, rfl⟩
  repeat (first | (with_reducible refine Wp.st ?_; simp only [wS]) | with_reducible refine Wp.drawS (by decide +kernel) ?_ | simp (disch := (first | (simp only [List.length_set, hl]; omega) | (simp only [List.length_set, el]; omega) | omega | rfl)) only [walkA, walkB, bne_self_eq_false, beq_self_eq_true, Option.map_some, Option.map_none, reduceIte, decide_true, decide_false, Int.reduceLT, Int.reduceLE, Int.reduceMul, Int.reduceAdd, Int.reduceSub, h0, h1, h2])
  refine Wp.cond_false (by (simp (disch := (first | (simp only [List.length_set, hl]; omega) | (simp only [List.length_set, el]; omega) | omega | rfl)) only [sL, aEval_tmp])) ?_
  have hl2 := len_any hr Try.underlying22
  simp only [List.length_map] at hl2
  have e1 : decide ((p : Int) < 0) = false := by simp
  have e2 : decide ((p : Int) > (bs.length : Int)) = false := by simp; omega
  by_cases hle : p + n ≤ bs.length
  · have e3 : decide ((bs.length : Int) - (p : Int) < (n : Int)) = false := by simp; omega
    repeat (first | (with_reducible refine Wp.st ?_; simp only [wS]) | with_reducible refine Wp.drawS (by decide +kernel) ?_ | simp (disch := (first | (simp only [List.length_set, hl]; omega) | (simp only [List.length_set, el]; omega) | omega | rfl)) only [walkA, walkB, bne_self_eq_false, beq_self_eq_true, Option.map_some, Option.map_none, reduceIte, decide_true, decide_false, Int.reduceLT, Int.reduceLE, Int.reduceMul, Int.reduceAdd, Int.reduceSub, h0, h1, h2, hl2, e1, e2, e3])
    refine Wp.cond_false (by (simp (disch := (first | (simp only [List.length_set, hl]; omega) | (simp only [List.length_set, el]; omega) | omega | rfl)) only [sL, aEval_tmp])) ?_
    repeat (first | (with_reducible refine Wp.st ?_; simp only [wS]) | with_reducible refine Wp.drawS (by decide +kernel) ?_ | simp (disch := (first | (simp only [List.length_set, hl]; omega) | (simp only [List.length_set, el]; omega) | omega | rfl)) only [walkA, walkB, bne_self_eq_false, beq_self_eq_true, Option.map_some, Option.map_none, reduceIte, decide_true, decide_false, Int.reduceLT, Int.reduceLE, Int.reduceMul, Int.reduceAdd, Int.reduceSub, h0, h1, h2])
    refine Wp.loop (fun m e hh => ∃ j : Nat, j + m = n ∧ e.length = 45 ∧ sl e 0 = bv ∧ sl e 1 = .int .i64 p ∧ sl e 2 = .int .i64 n ∧ sl e 8 = .int .u64 (beF 0 (((bs.drop p).take n).take j)) ∧ sl e 9 = .int .i64 j ∧ hh = h') n
      ⟨0, by omega, by simp [hl], by (simp (disch := (first | (simp only [List.length_set, hl]; omega) | (simp only [List.length_set, el]; omega) | omega | rfl)) only [sL, h0]), by (simp (disch := (first | (simp only [List.length_set, hl]; omega) | (simp only [List.length_set, el]; omega) | omega | rfl)) only [sL, h1]), by (simp (disch := (first | (simp only [List.length_set, hl]; omega) | (simp only [List.length_set, el]; omega) | omega | rfl)) only [sL, h2]), by (simp (disch := (first | (simp only [List.length_set, hl]; omega) | (simp only [List.length_set, el]; omega) | omega | rfl)) only [sL]); rfl, by (simp (disch := (first | (simp only [List.length_set, hl]; omega) | (simp only [List.length_set, el]; omega) | omega | rfl)) only [sL]); rfl, rfl⟩ ?_
    clear h0 h1 h2 hl env
    rintro m e hh ⟨j, hj, el, e0, e1, e2, e8, e9, rfl⟩
    repeat (first | (with_reducible refine Wp.st ?_; simp only [wS]) | with_reducible refine Wp.drawS (by decide +kernel) ?_ | simp (disch := (first | (simp only [List.length_set, hl]; omega) | (simp only [List.length_set, el]; omega) | omega | rfl)) only [walkA, walkB, bne_self_eq_false, beq_self_eq_true, Option.map_some, Option.map_none, reduceIte, decide_true, decide_false, Int.reduceLT, Int.reduceLE, Int.reduceMul, Int.reduceAdd, Int.reduceSub, e0, e1, e2, e8, e9])
    have hln : ((bs.drop p).take n).length = n := by rw [List.length_take, List.length_drop]; omega
    by_cases hlt : j < n
    · refine Wp.cond_true (by (simp (disch := (first | (simp only [List.length_set, hl]; omega) | (simp only [List.length_set, el]; omega) | omega | rfl)) only [sL, aEval_tmp]); simpa using hlt) ?_
      have hpj : p + j < bs.length := by omega
      obtain ⟨k, off, hx1, hx2⟩ := hr.index (P := Try.prog) Try.underlying22 i5 rfl (j := p + j) (kd := .i64) (by simpa using hpj)
      rw [← aLoad_one (P := Try.prog) Try.underlying5 (by simp) (by simp), List.getElem_map] at hx2
      rw [show ((p + j : Nat) : Int) = (p : Int) + (j : Int) by omega] at hx1
      have hcv := fun x hx => conv_int (h := hx) (k' := .u8) (n := x) Try.underlying5 Try.underlying24
      have hg : ((bs.drop p).take n)[j]'(by omega) = bs[p + j] := by rw [List.getElem_take, List.getElem_drop]
      repeat (first | (with_reducible refine Wp.st ?_; simp only [wS]) | with_reducible refine Wp.drawS (by decide +kernel) ?_ | simp (disch := (first | (simp only [List.length_set, hl]; omega) | (simp only [List.length_set, el]; omega) | omega | rfl)) only [walkA, walkB, bne_self_eq_false, beq_self_eq_true, Option.map_some, Option.map_none, reduceIte, decide_true, decide_false, Int.reduceLT, Int.reduceLE, Int.reduceMul, Int.reduceAdd, Int.reduceSub, e0, e1, e2, e8, e9, hx1, hx2, hcv])
      exact ⟨m - 1, by omega, j + 1, by omega, by simp [el], by (simp (disch := (first | (simp only [List.length_set, hl]; omega) | (simp only [List.length_set, el]; omega) | omega | rfl)) only [sL, e0]), by (simp (disch := (first | (simp only [List.length_set, hl]; omega) | (simp only [List.length_set, el]; omega) | omega | rfl)) only [sL, e1]), by (simp (disch := (first | (simp only [List.length_set, hl]; omega) | (simp only [List.length_set, el]; omega) | omega | rfl)) only [sL, e2]), by rw [beF_take _ _ _ (by omega), hg]; first | rfl | ((simp (disch := (first | (simp only [List.length_set, hl]; omega) | (simp only [List.length_set, el]; omega) | omega | rfl)) only [sL]); rfl), by (simp (disch := (first | (simp only [List.length_set, hl]; omega) | (simp only [List.length_set, el]; omega) | omega | rfl)) only [sL, Int.natCast_add]); rfl, trivial⟩
    · refine Wp.cond_false (by (simp (disch := (first | (simp only [List.length_set, hl]; omega) | (simp only [List.length_set, el]; omega) | omega | rfl)) only [sL, aEval_tmp]); simpa using hlt) ?_
      have hjl : j = n := by omega
      subst hjl
      rw [List.take_take, Nat.min_self] at e8
      repeat (first | (with_reducible refine Wp.st ?_; simp only [wS]) | with_reducible refine Wp.drawS (by decide +kernel) ?_ | simp (disch := (first | (simp only [List.length_set, hl]; omega) | (simp only [List.length_set, el]; omega) | omega | rfl)) only [walkA, walkB, bne_self_eq_false, beq_self_eq_true, Option.map_some, Option.map_none, reduceIte, decide_true, decide_false, Int.reduceLT, Int.reduceLE, Int.reduceMul, Int.reduceAdd, Int.reduceSub, e0, e1, e2, e8, e9])
      simp (disch := (first | (simp only [List.length_set, el]; omega) | omega | rfl)) only [aRes_two Try.results83, sL]
      unfold beR; rw [if_pos hle]
      trivial
  · have e3 : decide ((bs.length : Int) - (p : Int) < (n : Int)) = true := by simp; omega
    repeat (first | (with_reducible refine Wp.st ?_; simp only [wS]) | with_reducible refine Wp.drawS (by decide +kernel) ?_ | simp (disch := (first | (simp only [List.length_set, hl]; omega) | (simp only [List.length_set, el]; omega) | omega | rfl)) only [walkA, walkB, bne_self_eq_false, beq_self_eq_true, Option.map_some, Option.map_none, reduceIte, decide_true, decide_false, Int.reduceLT, Int.reduceLE, Int.reduceMul, Int.reduceAdd, Int.reduceSub, h0, h1, h2, hl2, e1, e2, e3])
    refine Wp.cond_true (by (simp (disch := (first | (simp only [List.length_set, hl]; omega) | (simp only [List.length_set, el]; omega) | omega | rfl)) only [sL, aEval_tmp])) ?_
    repeat (first | (with_reducible refine Wp.st ?_; simp only [wS]) | with_reducible refine Wp.drawS (by decide +kernel) ?_ | simp (disch := (first | (simp only [List.length_set, hl]; omega) | (simp only [List.length_set, el]; omega) | omega | rfl)) only [walkA, walkB, bne_self_eq_false, beq_self_eq_true, Option.map_some, Option.map_none, reduceIte, decide_true, decide_false, Int.reduceLT, Int.reduceLE, Int.reduceMul, Int.reduceAdd, Int.reduceSub, h0, h1, h2])
    simp (disch := (first | (simp only [List.length_set, hl]; omega) | omega | rfl)) only [aRes_two Try.results83, sL]
    unfold beR; rw [if_neg hle]
    trivial
end Go.Proofs.Ytanknjpcgceccaa

namespace Go.Proofs.Ytanknjpcgceccaa
open Go Go.AM
set_option maxRecDepth 100000
theorem i3' : Try.prog.info? 3 = some Try.t3 := by kernel_rfl
theorem iErr : Try.prog.info? 43 = some Try.t43 := by kernel_rfl
section
variable {k off : Nat}
theorem faR0 : aFieldAddr Try.prog 113 (.pointer (some ⟨k, off, none⟩)) 0 = some (.pointer (some ⟨k, off, none⟩)) := by kernel_rfl
theorem faP0 : aFieldAddr Try.prog 111 (.pointer (some ⟨k, off, none⟩)) 0 = some (.pointer (some ⟨k, off, none⟩)) := by kernel_rfl
theorem faP1 : aFieldAddr Try.prog 111 (.pointer (some ⟨k, off, none⟩)) 1 = some (.pointer (some ⟨k, off + 1, none⟩)) := by kernel_rfl
theorem faP2 : aFieldAddr Try.prog 111 (.pointer (some ⟨k, off, none⟩)) 2 = some (.pointer (some ⟨k, off + 2, none⟩)) := by kernel_rfl
end
def RD (h : Heap) (k : Nat) (T : TypeId) (bv : Value) (s : Nat × Int) : Prop := h.get k = some (.cells [bv, .int .i64 s.1, .int .i64 s.2] T false)
section
variable {h : Heap} {k : Nat} {T : TypeId} {bv : Value} {s : Nat × Int}
theorem RD.b (r : RD h k T bv s) : aLoad Try.prog h 22 (.pointer (some ⟨k, 0, none⟩)) = some bv := by rw [aLoad_at Try.underlying22 (by simp) (by simp) r]; rfl
theorem RD.p (r : RD h k T bv s) : aLoad Try.prog h 3 (.pointer (some ⟨k, 0 + 1, none⟩)) = some (.int .i64 s.1) := by rw [aLoad_at Try.underlying3 (by simp) (by simp) r]; rfl
theorem RD.e (r : RD h k T bv s) : aLoad Try.prog h 43 (.pointer (some ⟨k, 0 + 2, none⟩)) = some (.int .i64 s.2) := by rw [aLoad_at Try.underlying43 (by simp) (by simp) r]; rfl
theorem RD.wp (r : RD h k T bv s) (n : Int) : aStore Try.prog h 3 (.pointer (some ⟨k, 0 + 1, none⟩)) (.int .i64 n) = some (h.set k (.cells [bv, .int .i64 n, .int .i64 s.2] T false)) := by rw [aStore_at i3' rfl r (0 + 1) (by simp) rfl rfl]; rfl
theorem RD.we (r : RD h k T bv s) (n : Int) : aStore Try.prog h 43 (.pointer (some ⟨k, 0 + 2, none⟩)) (.int .i64 n) = some (h.set k (.cells [bv, .int .i64 s.1, .int .i64 n] T false)) := by rw [aStore_at iErr rfl r (0 + 2) (by simp) rfl rfl]; rfl
theorem RD.setp (r : RD h k T bv s) (n : Nat) : RD (h.set k (.cells [bv, .int .i64 n, .int .i64 s.2] T false)) k T bv (n, s.2) := Heap.get_set_eq r
theorem RD.sete (r : RD h k T bv s) (n : Int) : RD (h.set k (.cells [bv, .int .i64 s.1, .int .i64 n] T false)) k T bv (s.1, n) := Heap.get_set_eq r
end
theorem fail_am (x : Int) (k : Nat) (T : TypeId) (bv : Value) (s : Nat × Int) (h : Heap) (r : RD h k T bv s) :
    Cl Try.prog 95 [.pointer (some ⟨k, 0, none⟩), .int .i64 x] h fun v h' => v = .tuple #[] ∧ RD h' k T bv (s.1, if s.2 = 0 then x else s.2) ∧ Same h h' (onlyS k) := by
  refine Cl.enter Try.func95 rfl 13 Try.ntmps95 (by simp) ?_
  intro env hl ha
  have h0 : sl env 0 = .pointer (some ⟨k, 0, none⟩) := ha 0 (by simp)
  have h1 : sl env 1 = .int .i64 x := ha 1 (by simp)
  clear ha
  have le := r.e
  by_cases hz : s.2 = 0
  · have hzb : (s.2 == 0) = true := by simpa using hz
    have we := r.we x
    repeat (first | (with_reducible refine Wp.st ?_; simp only [wS]) | with_reducible refine Wp.drawS (by decide +kernel) ?_ | simp (disch := (first | (simp only [List.length_set, hl]; omega) | (simp only [List.length_set, el]; omega) | omega | rfl)) only [walkA, walkB, bne_self_eq_false, beq_self_eq_true, Option.map_some, Option.map_none, reduceIte, decide_true, decide_false, Int.reduceLT, Int.reduceLE, Int.reduceMul, Int.reduceAdd, Int.reduceSub, h0, h1, faP2, le, hzb])
    refine Wp.cond_true (by (simp (disch := (first | (simp only [List.length_set, hl]; omega) | (simp only [List.length_set, el]; omega) | omega | rfl)) only [sL, aEval_tmp])) ?_
    repeat (first | (with_reducible refine Wp.st ?_; simp only [wS]) | with_reducible refine Wp.drawS (by decide +kernel) ?_ | simp (disch := (first | (simp only [List.length_set, hl]; omega) | (simp only [List.length_set, el]; omega) | omega | rfl)) only [walkA, walkB, bne_self_eq_false, beq_self_eq_true, Option.map_some, Option.map_none, reduceIte, decide_true, decide_false, Int.reduceLT, Int.reduceLE, Int.reduceMul, Int.reduceAdd, Int.reduceSub, h0, h1, faP2, we])
    simp only [aRes_none Try.results95]
    rw [if_pos hz]
    exact ⟨trivial, r.sete x, Same.set1 _ _ _⟩
  · have hzb : (s.2 == 0) = false := by simpa using hz
    repeat (first | (with_reducible refine Wp.st ?_; simp only [wS]) | with_reducible refine Wp.drawS (by decide +kernel) ?_ | simp (disch := (first | (simp only [List.length_set, hl]; omega) | (simp only [List.length_set, el]; omega) | omega | rfl)) only [walkA, walkB, bne_self_eq_false, beq_self_eq_true, Option.map_some, Option.map_none, reduceIte, decide_true, decide_false, Int.reduceLT, Int.reduceLE, Int.reduceMul, Int.reduceAdd, Int.reduceSub, h0, h1, faP2, le, hzb])
    refine Wp.cond_false (by (simp (disch := (first | (simp only [List.length_set, hl]; omega) | (simp only [List.length_set, el]; omega) | omega | rfl)) only [sL, aEval_tmp])) ?_
    repeat (first | (with_reducible refine Wp.st ?_; simp only [wS]) | with_reducible refine Wp.drawS (by decide +kernel) ?_ | simp (disch := (first | (simp only [List.length_set, hl]; omega) | (simp only [List.length_set, el]; omega) | omega | rfl)) only [walkA, walkB, bne_self_eq_false, beq_self_eq_true, Option.map_some, Option.map_none, reduceIte, decide_true, decide_false, Int.reduceLT, Int.reduceLE, Int.reduceMul, Int.reduceAdd, Int.reduceSub, h0, h1])
    simp only [aRes_none Try.results95]
    rw [if_neg hz]
    exact ⟨trivial, r, Same.refl _ _⟩
def rNum (bs : List Int) (n : Nat) (s : Nat × Int) : Int × Nat × Int :=
  if s.2 ≠ 0 then (0, s) else if s.1 + n ≤ bs.length then (beF 0 ((bs.drop s.1).take n), s.1 + n, 0) else (0, s.1, 11)
def rBool (bs : List Int) (s : Nat × Int) : Bool × Nat × Int :=
  if (rNum bs 4 s).1 > 1 then (false, s.1, 15) else ((rNum bs 4 s).1 == 1, (rNum bs 4 s).2)
def rFixed (bs : List Int) (n : Int) (s : Nat × Int) : List Int × Nat × Int :=
  if s.2 ≠ 0 then ([], s) else if n < 0 then ([], s.1, 1) else if bs.length < s.1 + n.toNat + pad n.toNat then ([], s.1, 11)
  else if ((bs.drop (s.1 + n.toNat)).take (pad n.toNat)).all (· == 0) then ((bs.drop s.1).take n.toNat, s.1 + n.toNat + pad n.toNat, 0) else ([], s.1, 15)
def rBytes (bs : List Int) (most : Int) (s : Nat × Int) : List Int × Nat × Int :=
  if (rNum bs 4 s).2.2 ≠ 0 then ([], s.1, (rNum bs 4 s).2.2) else if (rNum bs 4 s).1 > most then ([], s.1, 5)
  else if (rFixed bs (rNum bs 4 s).1 (rNum bs 4 s).2).2.2 ≠ 0 then ([], s.1, (rFixed bs (rNum bs 4 s).1 (rNum bs 4 s).2).2.2) else rFixed bs (rNum bs 4 s).1 (rNum bs 4 s).2
structure RdOK (h : Heap) (k : Nat) (T : TypeId) (bv : Value) (bs : List Int) (s : Nat × Int) : Prop where
  rd : RD h k T bv s
  row : RowX h 5 bv (bs.map (Value.int .u8))
  off : ∀ a n c, bv = .slice (some a) n c → n ≠ 0 → a.block ≠ k
  len : bs.length ≤ 1000000000
  pos : s.1 ≤ bs.length
  byte : ∀ b ∈ bs, 0 ≤ b ∧ b < 256
section
variable {h h' : Heap} {k : Nat} {T : TypeId} {bv : Value} {bs : List Int} {s s' : Nat × Int}
theorem RdOK.next (r : RdOK h k T bv bs s) (hr : RD h' k T bv s') (hs : Same h h' (onlyS k)) (hp : s'.1 ≤ bs.length) : RdOK h' k T bv bs s' :=
  ⟨hr, r.row.same hs (fun a n c e hn => r.off a n c e hn), r.off, r.len, hp, r.byte⟩
theorem RdOK.same {S : Nat → Prop} (r : RdOK h k T bv bs s) (hs : Same h h' S) (hk : ¬ S k) (ho : ∀ a n c, bv = .slice (some a) n c → n ≠ 0 → ¬ S a.block) : RdOK h' k T bv bs s :=
  ⟨hs.2 k _ r.rd hk, r.row.same hs ho, r.off, r.len, r.pos, r.byte⟩
theorem rNum_pos (n : Nat) (hp : s.1 ≤ bs.length) : (rNum bs n s).2.1 ≤ bs.length := by
  unfold rNum
  split
  · exact hp
  · split
    · assumption
    · exact hp
end
theorem number_am (n : Nat) (hn : n = 4 ∨ n = 8) (k : Nat) (T : TypeId) (bv : Value) (bs : List Int) (s : Nat × Int) (h : Heap) (r : RdOK h k T bv bs s) :
    Cl Try.prog 94 [.pointer (some ⟨k, 0, none⟩), .int .i64 n] h fun v h' => v = .int .u64 (rNum bs n s).1 ∧ RdOK h' k T bv bs (rNum bs n s).2 ∧ Same h h' (onlyS k) := by
  refine Cl.enter Try.func94 rfl 37 Try.ntmps94 (by simp) ?_
  intro env hl ha
  have h0 : sl env 0 = .pointer (some ⟨k, 0, none⟩) := ha 0 (by simp)
  have h1 : sl env 1 = .int .i64 n := ha 1 (by simp)
  clear ha
  have lb := r.rd.b
  have lp := r.rd.p
  repeat (first | (with_reducible refine Wp.st ?_; simp only [wS]) | with_reducible refine Wp.drawS (by decide +kernel) ?_ | simp (disch := (first | (simp only [List.length_set, hl]; omega) | (simp only [List.length_set, el]; omega) | omega | rfl)) only [walkA, walkB, bne_self_eq_false, beq_self_eq_true, Option.map_some, Option.map_none, reduceIte, decide_true, decide_false, Int.reduceLT, Int.reduceLE, Int.reduceMul, Int.reduceAdd, Int.reduceSub, h0, h1, faP0, faP1, lb, lp])
  refine (be_am n s.1 hn bv bs h r.row r.len r.pos).mono ?_
  rintro v h' ⟨rfl, rfl⟩
  obtain ⟨x, e, hbe, hx⟩ : ∃ (x e : Int), beR bs s.1 n = .tuple #[.int .u64 x, .int .i64 e] ∧ ((s.1 + n ≤ bs.length ∧ x = beF 0 ((bs.drop s.1).take n) ∧ e = 0) ∨ (¬ s.1 + n ≤ bs.length ∧ x = 0 ∧ e = 11)) := by
    unfold beR
    by_cases hle : s.1 + n ≤ bs.length
    · exact ⟨_, _, by rw [if_pos hle], .inl ⟨hle, rfl, rfl⟩⟩
    · exact ⟨_, _, by rw [if_neg hle], .inr ⟨hle, rfl, rfl⟩⟩
  have x0 : aExtract (.tuple #[.int .u64 x, .int .i64 e]) 0 = some (.int .u64 x) := rfl
  have x1 : aExtract (.tuple #[.int .u64 x, .int .i64 e]) 1 = some (.int .i64 e) := rfl
  repeat (first | (with_reducible refine Wp.st ?_; simp only [wS]) | with_reducible refine Wp.drawS (by decide +kernel) ?_ | simp (disch := (first | (simp only [List.length_set, hl]; omega) | (simp only [List.length_set, el]; omega) | omega | rfl)) only [walkA, walkB, bne_self_eq_false, beq_self_eq_true, Option.map_some, Option.map_none, reduceIte, decide_true, decide_false, Int.reduceLT, Int.reduceLE, Int.reduceMul, Int.reduceAdd, Int.reduceSub, h0, h1, hbe, x0, x1])
  refine (fail_am e k T bv s h' r.rd).mono ?_
  rintro v h2 ⟨rfl, r2, s2⟩
  have le := r2.e
  by_cases hz : s.2 = 0
  · rw [if_pos hz] at r2 le
    rcases hx with ⟨hle, rfl, rfl⟩ | ⟨hle, rfl, rfl⟩
    · have lp := r2.p
      have wp := r2.wp (s.1 + n)
      have w1 : IntKind.i64.wrap ((s.1 : Int) + (n : Int)) = (s.1 : Int) + (n : Int) := wrap_i64 (by omega) (by have := r.len; omega)
      repeat (first | (with_reducible refine Wp.st ?_; simp only [wS]) | with_reducible refine Wp.drawS (by decide +kernel) ?_ | simp (disch := (first | (simp only [List.length_set, hl]; omega) | (simp only [List.length_set, el]; omega) | omega | rfl)) only [walkA, walkB, bne_self_eq_false, beq_self_eq_true, Option.map_some, Option.map_none, reduceIte, decide_true, decide_false, Int.reduceLT, Int.reduceLE, Int.reduceMul, Int.reduceAdd, Int.reduceSub, h0, h1, faP2, le])
      refine Wp.cond_false (by (simp (disch := (first | (simp only [List.length_set, hl]; omega) | (simp only [List.length_set, el]; omega) | omega | rfl)) only [sL, aEval_tmp])) ?_
      repeat (first | (with_reducible refine Wp.st ?_; simp only [wS]) | with_reducible refine Wp.drawS (by decide +kernel) ?_ | simp (disch := (first | (simp only [List.length_set, hl]; omega) | (simp only [List.length_set, el]; omega) | omega | rfl)) only [walkA, walkB, bne_self_eq_false, beq_self_eq_true, Option.map_some, Option.map_none, reduceIte, decide_true, decide_false, Int.reduceLT, Int.reduceLE, Int.reduceMul, Int.reduceAdd, Int.reduceSub, h0, h1, faP1, lp, w1, wp])
      simp (disch := (first | (simp only [List.length_set, hl]; omega) | omega | rfl)) only [aRes_one Try.results94, sL]
      have e1 : rNum bs n s = (beF 0 ((bs.drop s.1).take n), s.1 + n, 0) := by unfold rNum; rw [if_neg (by simp [hz]), if_pos hle]
      rw [e1]
      have r3 := r2.setp (s.1 + n)
      have s3 := s2.then (Same.set1 h2 k (.cells [bv, .int .i64 (s.1 + n : Nat), .int .i64 0] T false))
      refine ⟨rfl, ?_, ?_⟩
      · exact r.next (by simpa using r3) (by simpa using s3) hle
      · simpa using s3
    · have e1 : rNum bs n s = (0, s.1, 11) := by unfold rNum; rw [if_neg (by simp [hz]), if_neg hle]
      repeat (first | (with_reducible refine Wp.st ?_; simp only [wS]) | with_reducible refine Wp.drawS (by decide +kernel) ?_ | simp (disch := (first | (simp only [List.length_set, hl]; omega) | (simp only [List.length_set, el]; omega) | omega | rfl)) only [walkA, walkB, bne_self_eq_false, beq_self_eq_true, Option.map_some, Option.map_none, reduceIte, decide_true, decide_false, Int.reduceLT, Int.reduceLE, Int.reduceMul, Int.reduceAdd, Int.reduceSub, h0, h1, faP2, le])
      refine Wp.cond_true (by (simp (disch := (first | (simp only [List.length_set, hl]; omega) | (simp only [List.length_set, el]; omega) | omega | rfl)) only [sL, aEval_tmp]); rfl) ?_
      repeat (first | (with_reducible refine Wp.st ?_; simp only [wS]) | with_reducible refine Wp.drawS (by decide +kernel) ?_ | simp (disch := (first | (simp only [List.length_set, hl]; omega) | (simp only [List.length_set, el]; omega) | omega | rfl)) only [walkA, walkB, bne_self_eq_false, beq_self_eq_true, Option.map_some, Option.map_none, reduceIte, decide_true, decide_false, Int.reduceLT, Int.reduceLE, Int.reduceMul, Int.reduceAdd, Int.reduceSub, h0, h1])
      simp (disch := (first | (simp only [List.length_set, hl]; omega) | omega | rfl)) only [aRes_one Try.results94, sL]
      rw [e1]
      exact ⟨rfl, r.next r2 s2 r.pos, s2⟩
  · rw [if_neg hz] at r2 le
    have e1 : rNum bs n s = (0, s) := by unfold rNum; rw [if_pos hz]
    have hzb : (s.2 != 0) = true := by simpa using hz
    repeat (first | (with_reducible refine Wp.st ?_; simp only [wS]) | with_reducible refine Wp.drawS (by decide +kernel) ?_ | simp (disch := (first | (simp only [List.length_set, hl]; omega) | (simp only [List.length_set, el]; omega) | omega | rfl)) only [walkA, walkB, bne_self_eq_false, beq_self_eq_true, Option.map_some, Option.map_none, reduceIte, decide_true, decide_false, Int.reduceLT, Int.reduceLE, Int.reduceMul, Int.reduceAdd, Int.reduceSub, h0, h1, faP2, le, hzb])
    refine Wp.cond_true (by (simp (disch := (first | (simp only [List.length_set, hl]; omega) | (simp only [List.length_set, el]; omega) | omega | rfl)) only [sL, aEval_tmp])) ?_
    repeat (first | (with_reducible refine Wp.st ?_; simp only [wS]) | with_reducible refine Wp.drawS (by decide +kernel) ?_ | simp (disch := (first | (simp only [List.length_set, hl]; omega) | (simp only [List.length_set, el]; omega) | omega | rfl)) only [walkA, walkB, bne_self_eq_false, beq_self_eq_true, Option.map_some, Option.map_none, reduceIte, decide_true, decide_false, Int.reduceLT, Int.reduceLE, Int.reduceMul, Int.reduceAdd, Int.reduceSub, h0, h1])
    simp (disch := (first | (simp only [List.length_set, hl]; omega) | omega | rfl)) only [aRes_one Try.results94, sL]
    rw [e1]
    exact ⟨rfl, r.next r2 s2 r.pos, s2⟩
end Go.Proofs.Ytanknjpcgceccaa

namespace Go.Proofs.Ytanknjpcgceccaa
open Go Go.AM
set_option maxRecDepth 100000
section
variable (k : Nat) (T : TypeId) (bv : Value) (bs : List Int) (s : Nat × Int) (h : Heap)
theorem rU32_am (r : RdOK h k T bv bs s) :
    Cl Try.prog 78 [.pointer (some ⟨k, 0, none⟩)] h fun v h' => v = .int .u32 (IntKind.u32.wrap (rNum bs 4 s).1) ∧ RdOK h' k T bv bs (rNum bs 4 s).2 ∧ Same h h' (onlyS k) := by
  refine Cl.enter Try.func78 rfl 8 Try.ntmps78 (by simp) ?_
  intro env hl ha
  have h0 : sl env 0 = .pointer (some ⟨k, 0, none⟩) := ha 0 (by simp)
  clear ha
  have hcv := fun x hx => conv_int (h := hx) (k' := .u64) (n := x) Try.underlying24 Try.underlying23
  repeat (first | (with_reducible refine Wp.st ?_; simp only [wS]) | with_reducible refine Wp.drawS (by decide +kernel) ?_ | simp (disch := (first | (simp only [List.length_set, hl]; omega) | (simp only [List.length_set, el]; omega) | omega | rfl)) only [walkA, walkB, bne_self_eq_false, beq_self_eq_true, Option.map_some, Option.map_none, reduceIte, decide_true, decide_false, Int.reduceLT, Int.reduceLE, Int.reduceMul, Int.reduceAdd, Int.reduceSub, h0, faR0])
  refine (number_am 4 (.inl rfl) k T bv bs s h r).mono ?_
  rintro v h' ⟨rfl, r', hs⟩
  repeat (first | (with_reducible refine Wp.st ?_; simp only [wS]) | with_reducible refine Wp.drawS (by decide +kernel) ?_ | simp (disch := (first | (simp only [List.length_set, hl]; omega) | (simp only [List.length_set, el]; omega) | omega | rfl)) only [walkA, walkB, bne_self_eq_false, beq_self_eq_true, Option.map_some, Option.map_none, reduceIte, decide_true, decide_false, Int.reduceLT, Int.reduceLE, Int.reduceMul, Int.reduceAdd, Int.reduceSub, h0, hcv])
  simp (disch := (first | (simp only [List.length_set, hl]; omega) | (simp only [List.length_set, el]; omega) | omega | rfl)) only [aRes_one Try.results78, sL]
  exact ⟨trivial, r', hs⟩
theorem rU64_am (r : RdOK h k T bv bs s) :
    Cl Try.prog 80 [.pointer (some ⟨k, 0, none⟩)] h fun v h' => v = .int .u64 (rNum bs 8 s).1 ∧ RdOK h' k T bv bs (rNum bs 8 s).2 ∧ Same h h' (onlyS k) := by
  refine Cl.enter Try.func80 rfl 7 Try.ntmps80 (by simp) ?_
  intro env hl ha
  have h0 : sl env 0 = .pointer (some ⟨k, 0, none⟩) := ha 0 (by simp)
  clear ha
  repeat (first | (with_reducible refine Wp.st ?_; simp only [wS]) | with_reducible refine Wp.drawS (by decide +kernel) ?_ | simp (disch := (first | (simp only [List.length_set, hl]; omega) | (simp only [List.length_set, el]; omega) | omega | rfl)) only [walkA, walkB, bne_self_eq_false, beq_self_eq_true, Option.map_some, Option.map_none, reduceIte, decide_true, decide_false, Int.reduceLT, Int.reduceLE, Int.reduceMul, Int.reduceAdd, Int.reduceSub, h0, faR0])
  refine (number_am 8 (.inr rfl) k T bv bs s h r).mono ?_
  rintro v h' ⟨rfl, r', hs⟩
  repeat (first | (with_reducible refine Wp.st ?_; simp only [wS]) | with_reducible refine Wp.drawS (by decide +kernel) ?_ | simp (disch := (first | (simp only [List.length_set, hl]; omega) | (simp only [List.length_set, el]; omega) | omega | rfl)) only [walkA, walkB, bne_self_eq_false, beq_self_eq_true, Option.map_some, Option.map_none, reduceIte, decide_true, decide_false, Int.reduceLT, Int.reduceLE, Int.reduceMul, Int.reduceAdd, Int.reduceSub, h0])
  simp (disch := (first | (simp only [List.length_set, hl]; omega) | (simp only [List.length_set, el]; omega) | omega | rfl)) only [aRes_one Try.results80, sL]
  exact ⟨trivial, r', hs⟩
theorem rBool_am (r : RdOK h k T bv bs s) :
    Cl Try.prog 76 [.pointer (some ⟨k, 0, none⟩)] h fun v h' => v = .bool (rBool bs s).1 ∧ RdOK h' k T bv bs (rBool bs s).2 ∧ Same h h' (onlyS k) := by
  refine Cl.enter Try.func76 rfl 27 Try.ntmps76 (by simp) ?_
  intro env hl ha
  have h0 : sl env 0 = .pointer (some ⟨k, 0, none⟩) := ha 0 (by simp)
  clear ha
  have lp := r.rd.p
  repeat (first | (with_reducible refine Wp.st ?_; simp only [wS]) | with_reducible refine Wp.drawS (by decide +kernel) ?_ | simp (disch := (first | (simp only [List.length_set, hl]; omega) | (simp only [List.length_set, el]; omega) | omega | rfl)) only [walkA, walkB, bne_self_eq_false, beq_self_eq_true, Option.map_some, Option.map_none, reduceIte, decide_true, decide_false, Int.reduceLT, Int.reduceLE, Int.reduceMul, Int.reduceAdd, Int.reduceSub, h0, faR0, faP1, lp])
  refine (number_am 4 (.inl rfl) k T bv bs s h r).mono ?_
  rintro v h' ⟨rfl, r', hs⟩
  by_cases hgt : (rNum bs 4 s).1 > 1
  · have d1 : decide ((rNum bs 4 s).1 > 1) = true := by simpa using hgt
    have hne : ((rNum bs 4 s).1 == 1) = false := by simp; omega
    have wp := r'.rd.wp s.1
    have r2 := r'.rd.setp s.1
    repeat (first | (with_reducible refine Wp.st ?_; simp only [wS]) | with_reducible refine Wp.drawS (by decide +kernel) ?_ | simp (disch := (first | (simp only [List.length_set, hl]; omega) | (simp only [List.length_set, el]; omega) | omega | rfl)) only [walkA, walkB, bne_self_eq_false, beq_self_eq_true, Option.map_some, Option.map_none, reduceIte, decide_true, decide_false, Int.reduceLT, Int.reduceLE, Int.reduceMul, Int.reduceAdd, Int.reduceSub, h0, faR0, d1])
    refine Wp.cond_true (by first | ((simp (disch := (first | (simp only [List.length_set, hl]; omega) | (simp only [List.length_set, el]; omega) | omega | rfl)) only [sL, aEval_tmp]); done) | ((simp (disch := (first | (simp only [List.length_set, hl]; omega) | (simp only [List.length_set, el]; omega) | omega | rfl)) only [sL, aEval_tmp]); rfl)) ?_
    repeat (first | (with_reducible refine Wp.st ?_; simp only [wS]) | with_reducible refine Wp.drawS (by decide +kernel) ?_ | simp (disch := (first | (simp only [List.length_set, hl]; omega) | (simp only [List.length_set, el]; omega) | omega | rfl)) only [walkA, walkB, bne_self_eq_false, beq_self_eq_true, Option.map_some, Option.map_none, reduceIte, decide_true, decide_false, Int.reduceLT, Int.reduceLE, Int.reduceMul, Int.reduceAdd, Int.reduceSub, h0, faR0, faP1, wp])
    refine (fail_am 15 k T bv _ _ r2).mono ?_
    rintro v h3 ⟨rfl, r3, s3⟩
    repeat (first | (with_reducible refine Wp.st ?_; simp only [wS]) | with_reducible refine Wp.drawS (by decide +kernel) ?_ | simp (disch := (first | (simp only [List.length_set, hl]; omega) | (simp only [List.length_set, el]; omega) | omega | rfl)) only [walkA, walkB, bne_self_eq_false, beq_self_eq_true, Option.map_some, Option.map_none, reduceIte, decide_true, decide_false, Int.reduceLT, Int.reduceLE, Int.reduceMul, Int.reduceAdd, Int.reduceSub, h0, hne])
    simp (disch := (first | (simp only [List.length_set, hl]; omega) | (simp only [List.length_set, el]; omega) | omega | rfl)) only [aRes_one Try.results76, sL]
    have hz : (rNum bs 4 s).2.2 = 0 := by
      unfold rNum at hgt ⊢
      split
      · rename_i hh; rw [if_pos hh] at hgt; simp at hgt
      · rename_i hh; rw [if_neg hh] at hgt
        split
        · rfl
        · rename_i h2; rw [if_neg h2] at hgt; simp at hgt
    have e1 : rBool bs s = (false, s.1, 15) := by unfold rBool; rw [if_pos hgt]
    simp only [hz, if_true] at r3
    rw [e1]
    have s4 := (hs.then (Same.set1 h' k _)).then s3
    exact ⟨rfl, r.next r3 s4 r.pos, s4⟩
  · have d1 : decide ((rNum bs 4 s).1 > 1) = false := by simpa using hgt
    have e1 : rBool bs s = ((rNum bs 4 s).1 == 1, (rNum bs 4 s).2) := by unfold rBool; rw [if_neg hgt]
    repeat (first | (with_reducible refine Wp.st ?_; simp only [wS]) | with_reducible refine Wp.drawS (by decide +kernel) ?_ | simp (disch := (first | (simp only [List.length_set, hl]; omega) | (simp only [List.length_set, el]; omega) | omega | rfl)) only [walkA, walkB, bne_self_eq_false, beq_self_eq_true, Option.map_some, Option.map_none, reduceIte, decide_true, decide_false, Int.reduceLT, Int.reduceLE, Int.reduceMul, Int.reduceAdd, Int.reduceSub, h0, faR0, d1])
    refine Wp.cond_false (by first | ((simp (disch := (first | (simp only [List.length_set, hl]; omega) | (simp only [List.length_set, el]; omega) | omega | rfl)) only [sL, aEval_tmp]); done) | ((simp (disch := (first | (simp only [List.length_set, hl]; omega) | (simp only [List.length_set, el]; omega) | omega | rfl)) only [sL, aEval_tmp]); rfl)) ?_
    repeat (first | (with_reducible refine Wp.st ?_; simp only [wS]) | with_reducible refine Wp.drawS (by decide +kernel) ?_ | simp (disch := (first | (simp only [List.length_set, hl]; omega) | (simp only [List.length_set, el]; omega) | omega | rfl)) only [walkA, walkB, bne_self_eq_false, beq_self_eq_true, Option.map_some, Option.map_none, reduceIte, decide_true, decide_false, Int.reduceLT, Int.reduceLE, Int.reduceMul, Int.reduceAdd, Int.reduceSub, h0])
    simp (disch := (first | (simp only [List.length_set, hl]; omega) | (simp only [List.length_set, el]; omega) | omega | rfl)) only [aRes_one Try.results76, sL]
    rw [e1]
    exact ⟨rfl, r', hs⟩
theorem rErr_am (r : RD h k T bv s) : Cl Try.prog 60 [.pointer (some ⟨k, 0, none⟩)] h fun v h' => v = .int .i64 s.2 ∧ h' = h := by
  refine Cl.enter Try.func60 rfl 8 Try.ntmps60 (by simp) ?_
  intro env hl ha
  have h0 : sl env 0 = .pointer (some ⟨k, 0, none⟩) := ha 0 (by simp)
  clear ha
  have lp := r.e
  repeat (first | (with_reducible refine Wp.st ?_; simp only [wS]) | with_reducible refine Wp.drawS (by decide +kernel) ?_ | simp (disch := (first | (simp only [List.length_set, hl]; omega) | (simp only [List.length_set, el]; omega) | omega | rfl)) only [walkA, walkB, bne_self_eq_false, beq_self_eq_true, Option.map_some, Option.map_none, reduceIte, decide_true, decide_false, Int.reduceLT, Int.reduceLE, Int.reduceMul, Int.reduceAdd, Int.reduceSub, h0, faR0, faP2, lp])
  simp (disch := (first | (simp only [List.length_set, hl]; omega) | (simp only [List.length_set, el]; omega) | omega | rfl)) only [aRes_one Try.results60, sL]
  exact ⟨trivial, trivial⟩
theorem rLeft_am (r : RdOK h k T bv bs s) : Cl Try.prog 61 [.pointer (some ⟨k, 0, none⟩)] h fun v h' => v = .int .i64 ((bs.length : Int) - s.1) ∧ h' = h := by
  refine Cl.enter Try.func61 rfl 15 Try.ntmps61 (by simp) ?_
  intro env hl ha
  have h0 : sl env 0 = .pointer (some ⟨k, 0, none⟩) := ha 0 (by simp)
  clear ha
  have lb := r.rd.b
  have lp := r.rd.p
  have hl2 := len_any r.row.row Try.underlying22
  simp only [List.length_map] at hl2
  have hp := r.pos
  have hln := r.len
  repeat (first | (with_reducible refine Wp.st ?_; simp only [wS]) | with_reducible refine Wp.drawS (by decide +kernel) ?_ | simp (disch := (first | (simp only [List.length_set, hl]; omega) | (simp only [List.length_set, el]; omega) | omega | rfl)) only [walkA, walkB, bne_self_eq_false, beq_self_eq_true, Option.map_some, Option.map_none, reduceIte, decide_true, decide_false, Int.reduceLT, Int.reduceLE, Int.reduceMul, Int.reduceAdd, Int.reduceSub, h0, faR0, faP0, faP1, lb, lp, hl2])
  simp (disch := (first | (simp only [List.length_set, hl]; omega) | (simp only [List.length_set, el]; omega) | omega | rfl)) only [aRes_one Try.results61, sL]
  exact ⟨trivial, trivial⟩
end
theorem ints_all (k : IntKind) : ∀ xs : List Int, (xs.map (Value.int k)).all Value.oneCell' = true
  | [] => rfl
  | x :: xs => by rw [List.map_cons, List.all_cons, ints_all k xs]; rfl
def OutB (h h' : Heap) (v : Value) (bs : List Int) : Prop := Buf h' 5 v (bs.map (Value.int .u8)) ∧ ∀ j, bufBlk v j → h.next ≤ j
theorem OutB.nil {h h' : Heap} : OutB h h' (.slice none 0 0) [] := ⟨.inl ⟨rfl, rfl⟩, by rintro j ⟨o, m, d, hh⟩; cases hh⟩
section
variable {h h1 h2 h3 : Heap} {k : Nat} {v : Value} {bs : List Int}
theorem OutB.back (o : OutB h1 h2 v bs) {S : Nat → Prop} (s : Same h h1 S) : OutB h h2 v bs := ⟨o.1, fun j x => Nat.le_trans s.1 (o.2 j x)⟩
theorem OutB.set {T : TypeId} {bv : Value} {s : Nat × Int} {e : Ent} {S1 S2 S3 : Nat → Prop} (o : OutB h2 h3 v bs) (s1 : Same h h1 S1) (s2 : Same h1 h2 S2) (_s3 : Same h2 h3 S3) (r : RD h k T bv s) : OutB h (h3.set k e) v bs := by
  have hf : ∀ j, bufBlk v j → h.next ≤ j := fun j x => Nat.le_trans s1.1 (Nat.le_trans s2.1 (o.2 j x))
  refine ⟨o.1.same (Same.set1 h3 k e) (fun j x y => ?_), hf⟩
  have hx : j = k := y
  have := hf j x
  have := Heap.get_lt r
  omega
end
theorem _root_.Go.AM.Buf.blk {h : Heap} {el : TypeId} {v : Value} {vs : List Value} (b : Buf h el v vs) {a : Addr} {n c : Nat} (e : v = .slice (some a) n c) : a.block < h.next := by
  rcases b with ⟨rfl, _⟩ | ⟨rfl, k, cs, e', ro, rfl, hg⟩ | ⟨k, cap, rfl, h1, h2, hg⟩
  · cases e
  · injection e with e; injection e with e; subst e; exact Heap.get_lt hg
  · injection e with e; injection e with e; subst e; exact Heap.get_lt hg
theorem stepV_eq (v b : Nat) (hv : v < 72057594037927936) (hb : b < 256) : stepV v b = ((v * 256 + b : Nat) : Int) := by
  unfold stepV
  have e1 : IntKind.u64.wrap ((v : Int) * 2 ^ (min (8 : Int).toNat IntKind.u64.bits)) = ((v * 256 : Nat) : Int) := by
    rw [show (min (8 : Int).toNat IntKind.u64.bits) = 8 by decide]
    rw [wrap_u64 (by omega) (by omega)]; omega
  have e2 : IntKind.u64.wrap (b : Int) = (b : Int) := wrap_u64 (by omega) (by omega)
  rw [e1, e2, BitVec.toNat_or, BitVec.toNat_ofInt, BitVec.toNat_ofInt]
  have e3 : (((v * 256 : Nat) : Int) % ((2 ^ IntKind.u64.bits : Nat) : Int)).toNat = 2 ^ 8 * v := by
    rw [show ((2 ^ IntKind.u64.bits : Nat) : Int) = 18446744073709551616 by decide]; omega
  have e4 : (((b : Nat) : Int) % ((2 ^ IntKind.u64.bits : Nat) : Int)).toNat = b := by
    rw [show ((2 ^ IntKind.u64.bits : Nat) : Int) = 18446744073709551616 by decide]; omega
  rw [e3, e4, ← Nat.two_pow_add_eq_or_of_lt (by omega), wrap_u64 (by omega) (by omega)]
  omega
theorem beF_nat : ∀ (l : List Int) (v n : Nat), (∀ b ∈ l, 0 ≤ b ∧ b < 256) → v < 256 ^ n → n + l.length ≤ 8 → ∃ w : Nat, beF v l = w ∧ w < 256 ^ (n + l.length)
  | [], v, n, _, hv, _ => ⟨v, rfl, by simpa using hv⟩
  | b :: l, v, n, hb, hv, hl => by
    obtain ⟨b0, rfl⟩ : ∃ b0 : Nat, b = b0 := ⟨b.toNat, by have := hb b (by simp); omega⟩
    have hb0 := hb b0 (by simp)
    simp only [List.length_cons] at hl
    have hp : (256 : Nat) ^ n ≤ 256 ^ 7 := Nat.pow_le_pow_right (by decide) (by omega)
    have e7 : (256 : Nat) ^ 7 = 72057594037927936 := by decide
    have e : stepV v b0 = ((v * 256 + b0 : Nat) : Int) := stepV_eq v b0 (by omega) (by omega)
    obtain ⟨w, h1, h2⟩ := beF_nat l (v * 256 + b0) (n + 1) (fun x hx => hb x (by simp [hx])) (by rw [Nat.pow_succ]; omega) (by omega)
    refine ⟨w, by show beF (stepV v b0) l = w; rw [e]; exact h1, ?_⟩
    rw [List.length_cons, show n + (l.length + 1) = n + 1 + l.length by omega]; exact h2
theorem beF4 (l : List Int) (hl : l.length ≤ 4) (hb : ∀ b ∈ l, 0 ≤ b ∧ b < 256) : 0 ≤ beF 0 l ∧ beF 0 l < 4294967296 := by
  obtain ⟨w, h1, h2⟩ := beF_nat l 0 0 hb (by decide) (by omega)
  have hp : (256 : Nat) ^ (0 + l.length) ≤ 256 ^ 4 := Nat.pow_le_pow_right (by decide) (by omega)
  have e4 : (256 : Nat) ^ 4 = 4294967296 := by decide
  have h1' : beF 0 l = w := h1
  rw [h1']; omega
theorem rFixed_err (bs : List Int) (n : Int) (s : Nat × Int) (he : (rFixed bs n s).2.2 ≠ 0) : (rFixed bs n s).1 = [] := by
  unfold rFixed at he ⊢
  split
  · rfl
  split
  · rfl
  split
  · rfl
  split
  · rename_i h1 h2 h3 h4
    rw [if_neg h1, if_neg h2, if_neg h3, if_pos h4] at he
    exact absurd rfl he
  · rfl
set_option maxHeartbeats 1000000 in
theorem rFixed_am (n : Int) (hn1 : -9223372036854775808 ≤ n) (hn2 : n ≤ 9223372036854775807) (k : Nat) (T : TypeId) (bv : Value) (bs : List Int) (s : Nat × Int) (h : Heap) (r : RdOK h k T bv bs s) :
    Cl Try.prog 97 [.pointer (some ⟨k, 0, none⟩), .int .i64 n] h fun v h' => OutB h h' v (rFixed bs n s).1 ∧ RdOK h' k T bv bs (rFixed bs n s).2 ∧ Same h h' (onlyS k) := by
  refine Cl.enter Try.func97 rfl 95 Try.ntmps97 (by simp) ?_
  intro env hl ha
  have h0 : sl env 0 = .pointer (some ⟨k, 0, none⟩) := ha 0 (by simp)
  have h1 : sl env 1 = .int .i64 n := ha 1 (by simp)
  clear ha
  have hln := r.len
  have hps := r.pos
  by_cases hneg : n < 0
  · have d1 : decide (n < 0) = true := by simpa using hneg
    repeat (first | (with_reducible refine Wp.st ?_; simp only [wS]) | with_reducible refine Wp.drawS (by decide +kernel) ?_ | simp (disch := (first | (simp only [List.length_set, hl]; omega) | (simp only [List.length_set, el]; omega) | omega | rfl)) only [walkA, walkB, bne_self_eq_false, beq_self_eq_true, Option.map_some, Option.map_none, reduceIte, decide_true, decide_false, Int.reduceLT, Int.reduceLE, Int.reduceMul, Int.reduceAdd, Int.reduceSub, h0, h1, d1])
    refine Wp.cond_true (by first | ((simp (disch := (first | (simp only [List.length_set, hl]; omega) | (simp only [List.length_set, el]; omega) | omega | rfl)) only [sL, aEval_tmp]); done) | ((simp (disch := (first | (simp only [List.length_set, hl]; omega) | (simp only [List.length_set, el]; omega) | omega | rfl)) only [sL, aEval_tmp]); rfl)) ?_
    repeat (first | (with_reducible refine Wp.st ?_; simp only [wS]) | with_reducible refine Wp.drawS (by decide +kernel) ?_ | simp (disch := (first | (simp only [List.length_set, hl]; omega) | (simp only [List.length_set, el]; omega) | omega | rfl)) only [walkA, walkB, bne_self_eq_false, beq_self_eq_true, Option.map_some, Option.map_none, reduceIte, decide_true, decide_false, Int.reduceLT, Int.reduceLE, Int.reduceMul, Int.reduceAdd, Int.reduceSub, h0, h1, faR0])
    refine (fail_am 1 k T bv s h r.rd).mono ?_
    rintro v h' ⟨rfl, r', hs⟩
    have le := r'.e
    have hne : ((if s.2 = 0 then (1 : Int) else s.2) != 0) = true := by split <;> simp_all
    repeat (first | (with_reducible refine Wp.st ?_; simp only [wS]) | with_reducible refine Wp.drawS (by decide +kernel) ?_ | simp (disch := (first | (simp only [List.length_set, hl]; omega) | (simp only [List.length_set, el]; omega) | omega | rfl)) only [walkA, walkB, bne_self_eq_false, beq_self_eq_true, Option.map_some, Option.map_none, reduceIte, decide_true, decide_false, Int.reduceLT, Int.reduceLE, Int.reduceMul, Int.reduceAdd, Int.reduceSub, h0, h1, faR0, faP2, le, hne])
    refine Wp.cond_true (by first | ((simp (disch := (first | (simp only [List.length_set, hl]; omega) | (simp only [List.length_set, el]; omega) | omega | rfl)) only [sL, aEval_tmp]); done) | ((simp (disch := (first | (simp only [List.length_set, hl]; omega) | (simp only [List.length_set, el]; omega) | omega | rfl)) only [sL, aEval_tmp]); rfl)) ?_
    repeat (first | (with_reducible refine Wp.st ?_; simp only [wS]) | with_reducible refine Wp.drawS (by decide +kernel) ?_ | simp (disch := (first | (simp only [List.length_set, hl]; omega) | (simp only [List.length_set, el]; omega) | omega | rfl)) only [walkA, walkB, bne_self_eq_false, beq_self_eq_true, Option.map_some, Option.map_none, reduceIte, decide_true, decide_false, Int.reduceLT, Int.reduceLE, Int.reduceMul, Int.reduceAdd, Int.reduceSub, h0, h1])
    simp (disch := (first | (simp only [List.length_set, hl]; omega) | (simp only [List.length_set, el]; omega) | omega | rfl)) only [aRes_one Try.results97, sL]
    have e1 : rFixed bs n s = ([], s.1, if s.2 = 0 then 1 else s.2) := by
      unfold rFixed
      by_cases hz : s.2 = 0
      · rw [if_neg (by simp [hz]), if_pos hneg, if_pos hz]
      · rw [if_pos hz, if_neg hz]
    rw [e1]
    exact ⟨OutB.nil, r.next r' hs r.pos, hs⟩
  obtain ⟨m, rfl⟩ : ∃ m : Nat, n = m := ⟨n.toNat, by omega⟩
  have d1 : decide ((m : Int) < 0) = false := by simp
  have hpd := pad_le m
  repeat (first | (with_reducible refine Wp.st ?_; simp only [wS]) | with_reducible refine Wp.drawS (by decide +kernel) ?_ | simp (disch := (first | (simp only [List.length_set, hl]; omega) | (simp only [List.length_set, el]; omega) | omega | rfl)) only [walkA, walkB, bne_self_eq_false, beq_self_eq_true, Option.map_some, Option.map_none, reduceIte, decide_true, decide_false, Int.reduceLT, Int.reduceLE, Int.reduceMul, Int.reduceAdd, Int.reduceSub, h0, h1, d1])
  refine Wp.cond_false (by first | ((simp (disch := (first | (simp only [List.length_set, hl]; omega) | (simp only [List.length_set, el]; omega) | omega | rfl)) only [sL, aEval_tmp]); done) | ((simp (disch := (first | (simp only [List.length_set, hl]; omega) | (simp only [List.length_set, el]; omega) | omega | rfl)) only [sL, aEval_tmp]); rfl)) ?_
  repeat (first | (with_reducible refine Wp.st ?_; simp only [wS]) | with_reducible refine Wp.drawS (by decide +kernel) ?_ | simp (disch := (first | (simp only [List.length_set, hl]; omega) | (simp only [List.length_set, el]; omega) | omega | rfl)) only [walkA, walkB, bne_self_eq_false, beq_self_eq_true, Option.map_some, Option.map_none, reduceIte, decide_true, decide_false, Int.reduceLT, Int.reduceLE, Int.reduceMul, Int.reduceAdd, Int.reduceSub, h0, h1])
  refine (rLeft_am k T bv bs s h r).mono ?_
  rintro v h' ⟨rfl, rfl⟩
  have na := negand m
  by_cases hcut : bs.length < s.1 + m + pad m
  · have d2 : decide ((bs.length : Int) - (s.1 : Int) - (m : Int) < ((pad m : Nat) : Int)) = true := by simp; omega
    repeat (first | (with_reducible refine Wp.st ?_; simp only [wS]) | with_reducible refine Wp.drawS (by decide +kernel) ?_ | simp (disch := (first | (simp only [List.length_set, hl]; omega) | (simp only [List.length_set, el]; omega) | omega | rfl)) only [walkA, walkB, bne_self_eq_false, beq_self_eq_true, Option.map_some, Option.map_none, reduceIte, decide_true, decide_false, Int.reduceLT, Int.reduceLE, Int.reduceMul, Int.reduceAdd, Int.reduceSub, h0, h1, na, d2])
    refine Wp.cond_true (by first | ((simp (disch := (first | (simp only [List.length_set, hl]; omega) | (simp only [List.length_set, el]; omega) | omega | rfl)) only [sL, aEval_tmp]); done) | ((simp (disch := (first | (simp only [List.length_set, hl]; omega) | (simp only [List.length_set, el]; omega) | omega | rfl)) only [sL, aEval_tmp]); rfl)) ?_
    repeat (first | (with_reducible refine Wp.st ?_; simp only [wS]) | with_reducible refine Wp.drawS (by decide +kernel) ?_ | simp (disch := (first | (simp only [List.length_set, hl]; omega) | (simp only [List.length_set, el]; omega) | omega | rfl)) only [walkA, walkB, bne_self_eq_false, beq_self_eq_true, Option.map_some, Option.map_none, reduceIte, decide_true, decide_false, Int.reduceLT, Int.reduceLE, Int.reduceMul, Int.reduceAdd, Int.reduceSub, h0, h1, faR0])
    refine (fail_am 11 k T bv s h' r.rd).mono ?_
    rintro v h2 ⟨rfl, r', hs⟩
    have le := r'.e
    have hne : ((if s.2 = 0 then (11 : Int) else s.2) != 0) = true := by split <;> simp_all
    repeat (first | (with_reducible refine Wp.st ?_; simp only [wS]) | with_reducible refine Wp.drawS (by decide +kernel) ?_ | simp (disch := (first | (simp only [List.length_set, hl]; omega) | (simp only [List.length_set, el]; omega) | omega | rfl)) only [walkA, walkB, bne_self_eq_false, beq_self_eq_true, Option.map_some, Option.map_none, reduceIte, decide_true, decide_false, Int.reduceLT, Int.reduceLE, Int.reduceMul, Int.reduceAdd, Int.reduceSub, h0, h1, faR0, faP2, le, hne])
    refine Wp.cond_true (by first | ((simp (disch := (first | (simp only [List.length_set, hl]; omega) | (simp only [List.length_set, el]; omega) | omega | rfl)) only [sL, aEval_tmp]); done) | ((simp (disch := (first | (simp only [List.length_set, hl]; omega) | (simp only [List.length_set, el]; omega) | omega | rfl)) only [sL, aEval_tmp]); rfl)) ?_
    repeat (first | (with_reducible refine Wp.st ?_; simp only [wS]) | with_reducible refine Wp.drawS (by decide +kernel) ?_ | simp (disch := (first | (simp only [List.length_set, hl]; omega) | (simp only [List.length_set, el]; omega) | omega | rfl)) only [walkA, walkB, bne_self_eq_false, beq_self_eq_true, Option.map_some, Option.map_none, reduceIte, decide_true, decide_false, Int.reduceLT, Int.reduceLE, Int.reduceMul, Int.reduceAdd, Int.reduceSub, h0, h1])
    simp (disch := (first | (simp only [List.length_set, hl]; omega) | (simp only [List.length_set, el]; omega) | omega | rfl)) only [aRes_one Try.results97, sL]
    have e1 : rFixed bs m s = ([], s.1, if s.2 = 0 then 11 else s.2) := by
      unfold rFixed
      by_cases hz : s.2 = 0
      · rw [if_neg (by simp [hz]), if_neg hneg, if_pos (by simpa using hcut), if_pos hz]
      · rw [if_pos hz, if_neg hz]
    rw [e1]
    exact ⟨OutB.nil, r.next r' hs r.pos, hs⟩
  have d2 : decide ((bs.length : Int) - (s.1 : Int) - (m : Int) < ((pad m : Nat) : Int)) = false := by simp; omega
  have le := r.rd.e
  repeat (first | (with_reducible refine Wp.st ?_; simp only [wS]) | with_reducible refine Wp.drawS (by decide +kernel) ?_ | simp (disch := (first | (simp only [List.length_set, hl]; omega) | (simp only [List.length_set, el]; omega) | omega | rfl)) only [walkA, walkB, bne_self_eq_false, beq_self_eq_true, Option.map_some, Option.map_none, reduceIte, decide_true, decide_false, Int.reduceLT, Int.reduceLE, Int.reduceMul, Int.reduceAdd, Int.reduceSub, h0, h1, na, d2])
  refine Wp.cond_false (by first | ((simp (disch := (first | (simp only [List.length_set, hl]; omega) | (simp only [List.length_set, el]; omega) | omega | rfl)) only [sL, aEval_tmp]); done) | ((simp (disch := (first | (simp only [List.length_set, hl]; omega) | (simp only [List.length_set, el]; omega) | omega | rfl)) only [sL, aEval_tmp]); rfl)) ?_
  by_cases hz : s.2 ≠ 0
  · have hne : (s.2 != 0) = true := by simpa using hz
    repeat (first | (with_reducible refine Wp.st ?_; simp only [wS]) | with_reducible refine Wp.drawS (by decide +kernel) ?_ | simp (disch := (first | (simp only [List.length_set, hl]; omega) | (simp only [List.length_set, el]; omega) | omega | rfl)) only [walkA, walkB, bne_self_eq_false, beq_self_eq_true, Option.map_some, Option.map_none, reduceIte, decide_true, decide_false, Int.reduceLT, Int.reduceLE, Int.reduceMul, Int.reduceAdd, Int.reduceSub, h0, h1, faR0, faP2, le, hne])
    refine Wp.cond_true (by first | ((simp (disch := (first | (simp only [List.length_set, hl]; omega) | (simp only [List.length_set, el]; omega) | omega | rfl)) only [sL, aEval_tmp]); done) | ((simp (disch := (first | (simp only [List.length_set, hl]; omega) | (simp only [List.length_set, el]; omega) | omega | rfl)) only [sL, aEval_tmp]); rfl)) ?_
    repeat (first | (with_reducible refine Wp.st ?_; simp only [wS]) | with_reducible refine Wp.drawS (by decide +kernel) ?_ | simp (disch := (first | (simp only [List.length_set, hl]; omega) | (simp only [List.length_set, el]; omega) | omega | rfl)) only [walkA, walkB, bne_self_eq_false, beq_self_eq_true, Option.map_some, Option.map_none, reduceIte, decide_true, decide_false, Int.reduceLT, Int.reduceLE, Int.reduceMul, Int.reduceAdd, Int.reduceSub, h0, h1])
    simp (disch := (first | (simp only [List.length_set, hl]; omega) | (simp only [List.length_set, el]; omega) | omega | rfl)) only [aRes_one Try.results97, sL]
    have e1 : rFixed bs m s = ([], s) := by unfold rFixed; rw [if_pos hz]
    rw [e1]
    exact ⟨OutB.nil, r, Same.refl _ _⟩
  have hz : s.2 = 0 := by omega
  have hne : (s.2 != 0) = false := by simp [hz]
  have lb := r.rd.b
  have lp := r.rd.p
  have a1 : (s.1 : Int) + (m : Int) = ((s.1 + m : Nat) : Int) := by omega
  have a2 : ((s.1 + m : Nat) : Int) + ((pad m : Nat) : Int) = ((s.1 + m + pad m : Nat) : Int) := by omega
  obtain ⟨v1, hsl, hx1, _⟩ := r.row.slice (P := Try.prog) Try.underlying22 i5 rfl (kl := .i64) (kh := .i64) (lo := s.1 + m) (hi' := s.1 + m + pad m) (by omega) (by simp; omega)
  rw [Nat.add_sub_cancel_left, ← List.map_drop, ← List.map_take] at hx1
  generalize hpv : ((bs.drop (s.1 + m)).take (pad m)) = ps at hx1
  have hplen : ps.length = pad m := by rw [← hpv, List.length_take, List.length_drop]; omega
  have hl2 := len_any hx1.row Try.underlying22
  simp only [List.length_map] at hl2
  repeat (first | (with_reducible refine Wp.st ?_; simp only [wS]) | with_reducible refine Wp.drawS (by decide +kernel) ?_ | simp (disch := (first | (simp only [List.length_set, hl]; omega) | (simp only [List.length_set, el]; omega) | omega | rfl)) only [walkA, walkB, bne_self_eq_false, beq_self_eq_true, Option.map_some, Option.map_none, reduceIte, decide_true, decide_false, Int.reduceLT, Int.reduceLE, Int.reduceMul, Int.reduceAdd, Int.reduceSub, h0, h1, faR0, faP0, faP1, faP2, le, hne, lb, lp, na, a1, a2])
  refine Wp.cond_false (by first | ((simp (disch := (first | (simp only [List.length_set, hl]; omega) | (simp only [List.length_set, el]; omega) | omega | rfl)) only [sL, aEval_tmp]); done) | ((simp (disch := (first | (simp only [List.length_set, hl]; omega) | (simp only [List.length_set, el]; omega) | omega | rfl)) only [sL, aEval_tmp]); rfl)) ?_
  repeat (first | (with_reducible refine Wp.st ?_; simp only [wS]) | with_reducible refine Wp.drawS (by decide +kernel) ?_ | simp (disch := (first | (simp only [List.length_set, hl]; omega) | (simp only [List.length_set, el]; omega) | omega | rfl)) only [walkA, walkB, bne_self_eq_false, beq_self_eq_true, Option.map_some, Option.map_none, reduceIte, decide_true, decide_false, Int.reduceLT, Int.reduceLE, Int.reduceMul, Int.reduceAdd, Int.reduceSub, h0, h1, faR0, faP0, faP1, faP2, le, hne, lb, lp, na, a1, a2, WOps_slice2, hsl, hl2])
  refine Wp.loop (fun i e hh => ∃ j : Nat, j + i = ps.length ∧ e.length = 95 ∧ sl e 0 = .pointer (some ⟨k, 0, none⟩) ∧ sl e 1 = .int .i64 m ∧ sl e 5 = .int .i64 (s.1 + m + pad m : Nat) ∧ sl e 57 = v1 ∧ sl e 58 = .int .i64 ps.length ∧ sl e 59 = .int .i64 j ∧ (ps.take j).all (· == 0) = true ∧ hh = h') ps.length
    ⟨0, by omega, by simp [hl], by (simp (disch := (first | (simp only [List.length_set, hl]; omega) | (simp only [List.length_set, el]; omega) | omega | rfl)) only [sL, h0]), by (simp (disch := (first | (simp only [List.length_set, hl]; omega) | (simp only [List.length_set, el]; omega) | omega | rfl)) only [sL, h1]), by (simp (disch := (first | (simp only [List.length_set, hl]; omega) | (simp only [List.length_set, el]; omega) | omega | rfl)) only [sL]), by (simp (disch := (first | (simp only [List.length_set, hl]; omega) | (simp only [List.length_set, el]; omega) | omega | rfl)) only [sL]), by (simp (disch := (first | (simp only [List.length_set, hl]; omega) | (simp only [List.length_set, el]; omega) | omega | rfl)) only [sL]), by (simp (disch := (first | (simp only [List.length_set, hl]; omega) | (simp only [List.length_set, el]; omega) | omega | rfl)) only [sL]); rfl, rfl, rfl⟩ ?_
  clear h0 h1 hl env
  rintro i e hh ⟨j, hj, el, e0, e1, e5, e57, e58, e59, hall, rfl⟩
  repeat (first | (with_reducible refine Wp.st ?_; simp only [wS]) | with_reducible refine Wp.drawS (by decide +kernel) ?_ | simp (disch := (first | (simp only [List.length_set, hl]; omega) | (simp only [List.length_set, el]; omega) | omega | rfl)) only [walkA, walkB, bne_self_eq_false, beq_self_eq_true, Option.map_some, Option.map_none, reduceIte, decide_true, decide_false, Int.reduceLT, Int.reduceLE, Int.reduceMul, Int.reduceAdd, Int.reduceSub, e0, e1, e5, e57, e58, e59])
  by_cases hlt : j < ps.length
  · refine Wp.cond_true (by (simp (disch := (first | (simp only [List.length_set, hl]; omega) | (simp only [List.length_set, el]; omega) | omega | rfl)) only [sL, aEval_tmp]); simpa using hlt) ?_
    obtain ⟨kk, off, hi1, hi2⟩ := hx1.row.index (P := Try.prog) Try.underlying22 i5 rfl (j := j) (kd := .i64) (by simpa using hlt)
    rw [← aLoad_one (P := Try.prog) Try.underlying5 (by simp) (by simp), List.getElem_map] at hi2
    by_cases hb0 : ps[j] = 0
    · have hb : (ps[j] != 0) = false := by simp [hb0]
      repeat (first | (with_reducible refine Wp.st ?_; simp only [wS]) | with_reducible refine Wp.drawS (by decide +kernel) ?_ | simp (disch := (first | (simp only [List.length_set, hl]; omega) | (simp only [List.length_set, el]; omega) | omega | rfl)) only [walkA, walkB, bne_self_eq_false, beq_self_eq_true, Option.map_some, Option.map_none, reduceIte, decide_true, decide_false, Int.reduceLT, Int.reduceLE, Int.reduceMul, Int.reduceAdd, Int.reduceSub, e0, e1, e5, e57, e58, e59, hi1, hi2, hb])
      refine Wp.cond_false (by first | ((simp (disch := (first | (simp only [List.length_set, hl]; omega) | (simp only [List.length_set, el]; omega) | omega | rfl)) only [sL, aEval_tmp]); done) | ((simp (disch := (first | (simp only [List.length_set, hl]; omega) | (simp only [List.length_set, el]; omega) | omega | rfl)) only [sL, aEval_tmp]); rfl)) ?_
      repeat (first | (with_reducible refine Wp.st ?_; simp only [wS]) | with_reducible refine Wp.drawS (by decide +kernel) ?_ | simp (disch := (first | (simp only [List.length_set, hl]; omega) | (simp only [List.length_set, el]; omega) | omega | rfl)) only [walkA, walkB, bne_self_eq_false, beq_self_eq_true, Option.map_some, Option.map_none, reduceIte, decide_true, decide_false, Int.reduceLT, Int.reduceLE, Int.reduceMul, Int.reduceAdd, Int.reduceSub, e0, e1, e5, e57, e58, e59])
      exact ⟨i - 1, by omega, j + 1, by omega, by simp [el], by (simp (disch := (first | (simp only [List.length_set, hl]; omega) | (simp only [List.length_set, el]; omega) | omega | rfl)) only [sL, e0]), by (simp (disch := (first | (simp only [List.length_set, hl]; omega) | (simp only [List.length_set, el]; omega) | omega | rfl)) only [sL, e1]), by (simp (disch := (first | (simp only [List.length_set, hl]; omega) | (simp only [List.length_set, el]; omega) | omega | rfl)) only [sL, e5]), by (simp (disch := (first | (simp only [List.length_set, hl]; omega) | (simp only [List.length_set, el]; omega) | omega | rfl)) only [sL, e57]), by (simp (disch := (first | (simp only [List.length_set, hl]; omega) | (simp only [List.length_set, el]; omega) | omega | rfl)) only [sL, e58]), by (simp (disch := (first | (simp only [List.length_set, hl]; omega) | (simp only [List.length_set, el]; omega) | omega | rfl)) only [sL, Int.natCast_add]); rfl, by rw [List.take_succ_eq_append_getElem hlt, List.all_append, hall]; simp [hb0], trivial⟩
    · have hb : (ps[j] != 0) = true := by simpa using hb0
      repeat (first | (with_reducible refine Wp.st ?_; simp only [wS]) | with_reducible refine Wp.drawS (by decide +kernel) ?_ | simp (disch := (first | (simp only [List.length_set, hl]; omega) | (simp only [List.length_set, el]; omega) | omega | rfl)) only [walkA, walkB, bne_self_eq_false, beq_self_eq_true, Option.map_some, Option.map_none, reduceIte, decide_true, decide_false, Int.reduceLT, Int.reduceLE, Int.reduceMul, Int.reduceAdd, Int.reduceSub, e0, e1, e5, e57, e58, e59, hi1, hi2, hb])
      refine Wp.cond_true (by first | ((simp (disch := (first | (simp only [List.length_set, hl]; omega) | (simp only [List.length_set, el]; omega) | omega | rfl)) only [sL, aEval_tmp]); done) | ((simp (disch := (first | (simp only [List.length_set, hl]; omega) | (simp only [List.length_set, el]; omega) | omega | rfl)) only [sL, aEval_tmp]); rfl)) ?_
      repeat (first | (with_reducible refine Wp.st ?_; simp only [wS]) | with_reducible refine Wp.drawS (by decide +kernel) ?_ | simp (disch := (first | (simp only [List.length_set, hl]; omega) | (simp only [List.length_set, el]; omega) | omega | rfl)) only [walkA, walkB, bne_self_eq_false, beq_self_eq_true, Option.map_some, Option.map_none, reduceIte, decide_true, decide_false, Int.reduceLT, Int.reduceLE, Int.reduceMul, Int.reduceAdd, Int.reduceSub, e0, e1, faR0])
      refine (fail_am 15 k T bv s hh r.rd).mono ?_
      rintro v h2 ⟨rfl, r', hs⟩
      rw [if_pos hz] at r'
      repeat (first | (with_reducible refine Wp.st ?_; simp only [wS]) | with_reducible refine Wp.drawS (by decide +kernel) ?_ | simp (disch := (first | (simp only [List.length_set, hl]; omega) | (simp only [List.length_set, el]; omega) | omega | rfl)) only [walkA, walkB, bne_self_eq_false, beq_self_eq_true, Option.map_some, Option.map_none, reduceIte, decide_true, decide_false, Int.reduceLT, Int.reduceLE, Int.reduceMul, Int.reduceAdd, Int.reduceSub, e0])
      simp (disch := (first | (simp only [List.length_set, hl]; omega) | (simp only [List.length_set, el]; omega) | omega | rfl)) only [aRes_one Try.results97, sL]
      have e1 : rFixed bs m s = ([], s.1, 15) := by
        unfold rFixed
        have hna : ¬ (ps.all (· == 0) = true) := fun hh => hb0 (by simpa using List.all_eq_true.1 hh _ (List.getElem_mem hlt))
        rw [if_neg (by simp [hz]), if_neg hneg, if_neg (by simpa using hcut), Int.toNat_natCast, hpv, if_neg hna]
      rw [e1]
      exact ⟨OutB.nil, r.next r' hs r.pos, hs⟩
  · refine Wp.cond_false (by (simp (disch := (first | (simp only [List.length_set, hl]; omega) | (simp only [List.length_set, el]; omega) | omega | rfl)) only [sL, aEval_tmp]); simpa using hlt) ?_
    have hjl : j = ps.length := by omega
    subst hjl
    rw [List.take_length] at hall
    have lb := r.rd.b
    have lp := r.rd.p
    obtain ⟨v2, hsl2, hx2, _⟩ := r.row.slice (P := Try.prog) Try.underlying22 i5 rfl (kl := .i64) (kh := .i64) (lo := s.1) (hi' := s.1 + m) (by omega) (by simp; omega)
    rw [Nat.add_sub_cancel_left, ← List.map_drop, ← List.map_take] at hx2
    clear hsl
    repeat (first | (with_reducible refine Wp.st ?_; simp only [wS]) | with_reducible refine Wp.drawS (by decide +kernel) ?_ | simp (disch := (first | (simp only [List.length_set, hl]; omega) | (simp only [List.length_set, el]; omega) | omega | rfl)) only [walkA, walkB, bne_self_eq_false, beq_self_eq_true, Option.map_some, Option.map_none, reduceIte, decide_true, decide_false, Int.reduceLT, Int.reduceLE, Int.reduceMul, Int.reduceAdd, Int.reduceSub, e0, e1, e5, faR0, faP0, faP1, lb, lp, a1, WOps_slice2, hsl2])
    refine (clone_am v2 _ hh hx2.row (ints_all _ _) (by simp; omega)).mono ?_
    rintro out h2 ⟨hb2, hs2, hf2⟩
    have r2 := r.same hs2 (fun x => x) (fun _ _ _ _ _ x => x)
    have wp := r2.rd.wp ((s.1 + m + pad m : Nat) : Int)
    have r3 := r2.rd.setp (s.1 + m + pad m)
    repeat (first | (with_reducible refine Wp.st ?_; simp only [wS]) | with_reducible refine Wp.drawS (by decide +kernel) ?_ | simp (disch := (first | (simp only [List.length_set, hl]; omega) | (simp only [List.length_set, el]; omega) | omega | rfl)) only [walkA, walkB, bne_self_eq_false, beq_self_eq_true, Option.map_some, Option.map_none, reduceIte, decide_true, decide_false, Int.reduceLT, Int.reduceLE, Int.reduceMul, Int.reduceAdd, Int.reduceSub, e0, e1, e5, faR0, faP1, wp])
    simp (disch := (first | (simp only [List.length_set, hl]; omega) | (simp only [List.length_set, el]; omega) | omega | rfl)) only [aRes_one Try.results97, sL]
    have e1 : rFixed bs m s = ((bs.drop s.1).take m, s.1 + m + pad m, 0) := by
      unfold rFixed
      rw [if_neg (by simp [hz]), if_neg hneg, if_neg (by simpa using hcut), Int.toNat_natCast, hpv, if_pos hall]
    have s3 := (Same.none (S := onlyS k) hs2).then (Same.set1 h2 k (.cells [bv, .int .i64 (s.1 + m + pad m : Nat), .int .i64 s.2] T false))
    rw [e1, ← hz]
    refine ⟨⟨?_, hf2⟩, r.next r3 s3 (by show s.1 + m + pad m ≤ bs.length; omega), s3⟩
    refine hb2.same (Same.set1 _ _ _) (fun j hj x => ?_)
    have hx : j = k := x
    subst hx
    have := hf2 j hj
    have := Heap.get_lt r.rd
    omega
theorem rNum_le (bs : List Int) (hb : ∀ b ∈ bs, 0 ≤ b ∧ b < 256) (s : Nat × Int) : 0 ≤ (rNum bs 4 s).1 ∧ (rNum bs 4 s).1 < 4294967296 := by
  unfold rNum
  split
  · simp
  split
  · exact beF4 _ (by rw [List.length_take]; omega) (fun b hm => hb b (List.mem_of_mem_drop (List.mem_of_mem_take hm)))
  · simp
theorem rBytes_am (most : Int) (k : Nat) (T : TypeId) (bv : Value) (bs : List Int) (s : Nat × Int) (h : Heap) (r : RdOK h k T bv bs s) :
    Cl Try.prog 81 [.pointer (some ⟨k, 0, none⟩), .int .i64 most] h fun v h' => OutB h h' v (rBytes bs most s).1 ∧ RdOK h' k T bv bs (rBytes bs most s).2 ∧ Same h h' (onlyS k) := by
  refine Cl.enter Try.func81 rfl 46 Try.ntmps81 (by simp) ?_
  intro env hl ha
  have h0 : sl env 0 = .pointer (some ⟨k, 0, none⟩) := ha 0 (by simp)
  have h1 : sl env 1 = .int .i64 most := ha 1 (by simp)
  clear ha
  have lp := r.rd.p
  obtain ⟨hr1, hr2⟩ := rNum_le bs r.byte s
  have w1 : IntKind.u32.wrap (rNum bs 4 s).1 = (rNum bs 4 s).1 := wrap_u32 hr1 hr2
  have w2 : IntKind.i64.wrap (rNum bs 4 s).1 = (rNum bs 4 s).1 := wrap_i64 (by omega) (by omega)
  have hcv := fun x hx => conv_int (h := hx) (k' := .u32) (n := x) Try.underlying23 Try.underlying3
  repeat (first | (with_reducible refine Wp.st ?_; simp only [wS]) | with_reducible refine Wp.drawS (by decide +kernel) ?_ | simp (disch := (first | (simp only [List.length_set, hl]; omega) | (simp only [List.length_set, el]; omega) | omega | rfl)) only [walkA, walkB, bne_self_eq_false, beq_self_eq_true, Option.map_some, Option.map_none, reduceIte, decide_true, decide_false, Int.reduceLT, Int.reduceLE, Int.reduceMul, Int.reduceAdd, Int.reduceSub, h0, h1, faR0, faP1, lp])
  refine (rU32_am k T bv bs s h r).mono ?_
  rintro v h1' ⟨rfl, r1, s1⟩
  have le := r1.rd.e
  have fin : ∀ (h2 : Heap) (e : Int) (out : Value) (ds : List Int) (env : List Value) (p : Nat), e ≠ 0 → True := fun _ _ _ _ _ _ _ => trivial
  -- the length is too much, or an error came: nothing is read
  by_cases hz : (rNum bs 4 s).2.2 = 0
  · have hzb : ((rNum bs 4 s).2.2 == 0) = true := by simpa using hz
    by_cases hgt : (rNum bs 4 s).1 > most
    · have d1 : decide ((rNum bs 4 s).1 > most) = true := by simpa using hgt
      repeat (first | (with_reducible refine Wp.st ?_; simp only [wS]) | with_reducible refine Wp.drawS (by decide +kernel) ?_ | simp (disch := (first | (simp only [List.length_set, hl]; omega) | (simp only [List.length_set, el]; omega) | omega | rfl)) only [walkA, walkB, bne_self_eq_false, beq_self_eq_true, Option.map_some, Option.map_none, reduceIte, decide_true, decide_false, Int.reduceLT, Int.reduceLE, Int.reduceMul, Int.reduceAdd, Int.reduceSub, h0, h1, hcv, w1, w2, faR0, faP2, le, hzb, d1])
      refine Wp.cond_true (by first | ((simp (disch := (first | (simp only [List.length_set, hl]; omega) | (simp only [List.length_set, el]; omega) | omega | rfl)) only [sL, aEval_tmp]); done) | ((simp (disch := (first | (simp only [List.length_set, hl]; omega) | (simp only [List.length_set, el]; omega) | omega | rfl)) only [sL, aEval_tmp]); rfl)) ?_
      repeat (first | (with_reducible refine Wp.st ?_; simp only [wS]) | with_reducible refine Wp.drawS (by decide +kernel) ?_ | simp (disch := (first | (simp only [List.length_set, hl]; omega) | (simp only [List.length_set, el]; omega) | omega | rfl)) only [walkA, walkB, bne_self_eq_false, beq_self_eq_true, Option.map_some, Option.map_none, reduceIte, decide_true, decide_false, Int.reduceLT, Int.reduceLE, Int.reduceMul, Int.reduceAdd, Int.reduceSub, h0, h1, faR0])
      refine (fail_am 5 k T bv _ h1' r1.rd).mono ?_
      rintro v h2 ⟨rfl, r2, s2⟩
      rw [if_pos hz] at r2
      have r2' := r1.next r2 s2 r1.pos
      repeat (first | (with_reducible refine Wp.st ?_; simp only [wS]) | with_reducible refine Wp.drawS (by decide +kernel) ?_ | simp (disch := (first | (simp only [List.length_set, hl]; omega) | (simp only [List.length_set, el]; omega) | omega | rfl)) only [walkA, walkB, bne_self_eq_false, beq_self_eq_true, Option.map_some, Option.map_none, reduceIte, decide_true, decide_false, Int.reduceLT, Int.reduceLE, Int.reduceMul, Int.reduceAdd, Int.reduceSub, h0, h1, faR0])
      refine (rFixed_am (rNum bs 4 s).1 (by omega) (by omega) k T bv bs _ h2 r2').mono ?_
      rintro out h3 ⟨ob, r3, s3⟩
      have ef : rFixed bs (rNum bs 4 s).1 ((rNum bs 4 s).2.1, 5) = ([], (rNum bs 4 s).2.1, 5) := by unfold rFixed; rw [if_pos (by simp)]
      rw [ef] at ob r3
      have le3 := r3.rd.e
      have wp := r3.rd.wp s.1
      have r4 := r3.rd.setp s.1
      repeat (first | (with_reducible refine Wp.st ?_; simp only [wS]) | with_reducible refine Wp.drawS (by decide +kernel) ?_ | simp (disch := (first | (simp only [List.length_set, hl]; omega) | (simp only [List.length_set, el]; omega) | omega | rfl)) only [walkA, walkB, bne_self_eq_false, beq_self_eq_true, Option.map_some, Option.map_none, reduceIte, decide_true, decide_false, Int.reduceLT, Int.reduceLE, Int.reduceMul, Int.reduceAdd, Int.reduceSub, h0, h1, faR0, faP2, le3])
      refine Wp.cond_true (by first | ((simp (disch := (first | (simp only [List.length_set, hl]; omega) | (simp only [List.length_set, el]; omega) | omega | rfl)) only [sL, aEval_tmp]); done) | ((simp (disch := (first | (simp only [List.length_set, hl]; omega) | (simp only [List.length_set, el]; omega) | omega | rfl)) only [sL, aEval_tmp]); rfl)) ?_
      repeat (first | (with_reducible refine Wp.st ?_; simp only [wS]) | with_reducible refine Wp.drawS (by decide +kernel) ?_ | simp (disch := (first | (simp only [List.length_set, hl]; omega) | (simp only [List.length_set, el]; omega) | omega | rfl)) only [walkA, walkB, bne_self_eq_false, beq_self_eq_true, Option.map_some, Option.map_none, reduceIte, decide_true, decide_false, Int.reduceLT, Int.reduceLE, Int.reduceMul, Int.reduceAdd, Int.reduceSub, h0, h1, faR0, faP1, wp])
      simp (disch := (first | (simp only [List.length_set, hl]; omega) | (simp only [List.length_set, el]; omega) | omega | rfl)) only [aRes_one Try.results81, sL]
      have eb : rBytes bs most s = ([], s.1, 5) := by unfold rBytes; rw [if_neg (by simp [hz]), if_pos hgt]
      have s4 := ((s1.then s2).then s3).then (Same.set1 h3 k (.cells [bv, .int .i64 s.1, .int .i64 5] T false))
      rw [eb]
      exact ⟨ob.set s1 s2 s3 r.rd, r.next r4 s4 r.pos, s4⟩
    · have d1 : decide ((rNum bs 4 s).1 > most) = false := by simpa using hgt
      repeat (first | (with_reducible refine Wp.st ?_; simp only [wS]) | with_reducible refine Wp.drawS (by decide +kernel) ?_ | simp (disch := (first | (simp only [List.length_set, hl]; omega) | (simp only [List.length_set, el]; omega) | omega | rfl)) only [walkA, walkB, bne_self_eq_false, beq_self_eq_true, Option.map_some, Option.map_none, reduceIte, decide_true, decide_false, Int.reduceLT, Int.reduceLE, Int.reduceMul, Int.reduceAdd, Int.reduceSub, h0, h1, hcv, w1, w2, faR0, faP2, le, hzb, d1])
      refine Wp.cond_false (by first | ((simp (disch := (first | (simp only [List.length_set, hl]; omega) | (simp only [List.length_set, el]; omega) | omega | rfl)) only [sL, aEval_tmp]); done) | ((simp (disch := (first | (simp only [List.length_set, hl]; omega) | (simp only [List.length_set, el]; omega) | omega | rfl)) only [sL, aEval_tmp]); rfl)) ?_
      repeat (first | (with_reducible refine Wp.st ?_; simp only [wS]) | with_reducible refine Wp.drawS (by decide +kernel) ?_ | simp (disch := (first | (simp only [List.length_set, hl]; omega) | (simp only [List.length_set, el]; omega) | omega | rfl)) only [walkA, walkB, bne_self_eq_false, beq_self_eq_true, Option.map_some, Option.map_none, reduceIte, decide_true, decide_false, Int.reduceLT, Int.reduceLE, Int.reduceMul, Int.reduceAdd, Int.reduceSub, h0, h1])
      refine (rFixed_am (rNum bs 4 s).1 (by omega) (by omega) k T bv bs _ h1' r1).mono ?_
      rintro out h3 ⟨ob, r3, s3⟩
      have le3 := r3.rd.e
      by_cases hz3 : (rFixed bs (rNum bs 4 s).1 (rNum bs 4 s).2).2.2 = 0
      · have hzb3 : ((rFixed bs (rNum bs 4 s).1 (rNum bs 4 s).2).2.2 != 0) = false := by simp [hz3]
        repeat (first | (with_reducible refine Wp.st ?_; simp only [wS]) | with_reducible refine Wp.drawS (by decide +kernel) ?_ | simp (disch := (first | (simp only [List.length_set, hl]; omega) | (simp only [List.length_set, el]; omega) | omega | rfl)) only [walkA, walkB, bne_self_eq_false, beq_self_eq_true, Option.map_some, Option.map_none, reduceIte, decide_true, decide_false, Int.reduceLT, Int.reduceLE, Int.reduceMul, Int.reduceAdd, Int.reduceSub, h0, h1, faR0, faP2, le3, hzb3])
        refine Wp.cond_false (by first | ((simp (disch := (first | (simp only [List.length_set, hl]; omega) | (simp only [List.length_set, el]; omega) | omega | rfl)) only [sL, aEval_tmp]); done) | ((simp (disch := (first | (simp only [List.length_set, hl]; omega) | (simp only [List.length_set, el]; omega) | omega | rfl)) only [sL, aEval_tmp]); rfl)) ?_
        repeat (first | (with_reducible refine Wp.st ?_; simp only [wS]) | with_reducible refine Wp.drawS (by decide +kernel) ?_ | simp (disch := (first | (simp only [List.length_set, hl]; omega) | (simp only [List.length_set, el]; omega) | omega | rfl)) only [walkA, walkB, bne_self_eq_false, beq_self_eq_true, Option.map_some, Option.map_none, reduceIte, decide_true, decide_false, Int.reduceLT, Int.reduceLE, Int.reduceMul, Int.reduceAdd, Int.reduceSub, h0, h1])
        simp (disch := (first | (simp only [List.length_set, hl]; omega) | (simp only [List.length_set, el]; omega) | omega | rfl)) only [aRes_one Try.results81, sL]
        have eb : rBytes bs most s = rFixed bs (rNum bs 4 s).1 (rNum bs 4 s).2 := by unfold rBytes; rw [if_neg (by simp [hz]), if_neg hgt, if_neg (by simp [hz3])]
        rw [eb]
        exact ⟨ob.back s1, r3, s1.then s3⟩
      · have hzb3 : ((rFixed bs (rNum bs 4 s).1 (rNum bs 4 s).2).2.2 != 0) = true := by simpa using hz3
        have wp := r3.rd.wp s.1
        have r4 := r3.rd.setp s.1
        repeat (first | (with_reducible refine Wp.st ?_; simp only [wS]) | with_reducible refine Wp.drawS (by decide +kernel) ?_ | simp (disch := (first | (simp only [List.length_set, hl]; omega) | (simp only [List.length_set, el]; omega) | omega | rfl)) only [walkA, walkB, bne_self_eq_false, beq_self_eq_true, Option.map_some, Option.map_none, reduceIte, decide_true, decide_false, Int.reduceLT, Int.reduceLE, Int.reduceMul, Int.reduceAdd, Int.reduceSub, h0, h1, faR0, faP2, le3, hzb3])
        refine Wp.cond_true (by first | ((simp (disch := (first | (simp only [List.length_set, hl]; omega) | (simp only [List.length_set, el]; omega) | omega | rfl)) only [sL, aEval_tmp]); done) | ((simp (disch := (first | (simp only [List.length_set, hl]; omega) | (simp only [List.length_set, el]; omega) | omega | rfl)) only [sL, aEval_tmp]); rfl)) ?_
        repeat (first | (with_reducible refine Wp.st ?_; simp only [wS]) | with_reducible refine Wp.drawS (by decide +kernel) ?_ | simp (disch := (first | (simp only [List.length_set, hl]; omega) | (simp only [List.length_set, el]; omega) | omega | rfl)) only [walkA, walkB, bne_self_eq_false, beq_self_eq_true, Option.map_some, Option.map_none, reduceIte, decide_true, decide_false, Int.reduceLT, Int.reduceLE, Int.reduceMul, Int.reduceAdd, Int.reduceSub, h0, h1, faR0, faP1, wp])
        simp (disch := (first | (simp only [List.length_set, hl]; omega) | (simp only [List.length_set, el]; omega) | omega | rfl)) only [aRes_one Try.results81, sL]
        have eb : rBytes bs most s = ([], s.1, (rFixed bs (rNum bs 4 s).1 (rNum bs 4 s).2).2.2) := by unfold rBytes; rw [if_neg (by simp [hz]), if_neg hgt, if_pos hz3]
        have en : (rFixed bs (rNum bs 4 s).1 (rNum bs 4 s).2).1 = [] := rFixed_err _ _ _ hz3
        have s4 := (s1.then s3).then (Same.set1 h3 k (.cells [bv, .int .i64 s.1, .int .i64 (rFixed bs (rNum bs 4 s).1 (rNum bs 4 s).2).2.2] T false))
        rw [eb]
        rw [en] at ob
        exact ⟨ob.set s1 (Same.refl _ (onlyS k)) s3 r.rd, r.next r4 s4 r.pos, s4⟩
  · have hzb : ((rNum bs 4 s).2.2 == 0) = false := by simpa using hz
    repeat (first | (with_reducible refine Wp.st ?_; simp only [wS]) | with_reducible refine Wp.drawS (by decide +kernel) ?_ | simp (disch := (first | (simp only [List.length_set, hl]; omega) | (simp only [List.length_set, el]; omega) | omega | rfl)) only [walkA, walkB, bne_self_eq_false, beq_self_eq_true, Option.map_some, Option.map_none, reduceIte, decide_true, decide_false, Int.reduceLT, Int.reduceLE, Int.reduceMul, Int.reduceAdd, Int.reduceSub, h0, h1, hcv, w1, w2, faR0, faP2, le, hzb])
    refine Wp.cond_false (by first | ((simp (disch := (first | (simp only [List.length_set, hl]; omega) | (simp only [List.length_set, el]; omega) | omega | rfl)) only [sL, aEval_tmp]); done) | ((simp (disch := (first | (simp only [List.length_set, hl]; omega) | (simp only [List.length_set, el]; omega) | omega | rfl)) only [sL, aEval_tmp]); rfl)) ?_
    repeat (first | (with_reducible refine Wp.st ?_; simp only [wS]) | with_reducible refine Wp.drawS (by decide +kernel) ?_ | simp (disch := (first | (simp only [List.length_set, hl]; omega) | (simp only [List.length_set, el]; omega) | omega | rfl)) only [walkA, walkB, bne_self_eq_false, beq_self_eq_true, Option.map_some, Option.map_none, reduceIte, decide_true, decide_false, Int.reduceLT, Int.reduceLE, Int.reduceMul, Int.reduceAdd, Int.reduceSub, h0, h1])
    refine (rFixed_am (rNum bs 4 s).1 (by omega) (by omega) k T bv bs _ h1' r1).mono ?_
    rintro out h3 ⟨ob, r3, s3⟩
    have ef : rFixed bs (rNum bs 4 s).1 (rNum bs 4 s).2 = ([], (rNum bs 4 s).2) := by unfold rFixed; rw [if_pos hz]
    rw [ef] at ob r3
    have le3 := r3.rd.e
    have hzb3 : ((rNum bs 4 s).2.2 != 0) = true := by simpa using hz
    have wp := r3.rd.wp s.1
    have r4 := r3.rd.setp s.1
    repeat (first | (with_reducible refine Wp.st ?_; simp only [wS]) | with_reducible refine Wp.drawS (by decide +kernel) ?_ | simp (disch := (first | (simp only [List.length_set, hl]; omega) | (simp only [List.length_set, el]; omega) | omega | rfl)) only [walkA, walkB, bne_self_eq_false, beq_self_eq_true, Option.map_some, Option.map_none, reduceIte, decide_true, decide_false, Int.reduceLT, Int.reduceLE, Int.reduceMul, Int.reduceAdd, Int.reduceSub, h0, h1, faR0, faP2, le3, hzb3])
    refine Wp.cond_true (by first | ((simp (disch := (first | (simp only [List.length_set, hl]; omega) | (simp only [List.length_set, el]; omega) | omega | rfl)) only [sL, aEval_tmp]); done) | ((simp (disch := (first | (simp only [List.length_set, hl]; omega) | (simp only [List.length_set, el]; omega) | omega | rfl)) only [sL, aEval_tmp]); rfl)) ?_
    repeat (first | (with_reducible refine Wp.st ?_; simp only [wS]) | with_reducible refine Wp.drawS (by decide +kernel) ?_ | simp (disch := (first | (simp only [List.length_set, hl]; omega) | (simp only [List.length_set, el]; omega) | omega | rfl)) only [walkA, walkB, bne_self_eq_false, beq_self_eq_true, Option.map_some, Option.map_none, reduceIte, decide_true, decide_false, Int.reduceLT, Int.reduceLE, Int.reduceMul, Int.reduceAdd, Int.reduceSub, h0, h1, faR0, faP1, wp])
    simp (disch := (first | (simp only [List.length_set, hl]; omega) | (simp only [List.length_set, el]; omega) | omega | rfl)) only [aRes_one Try.results81, sL]
    have eb : rBytes bs most s = ([], s.1, (rNum bs 4 s).2.2) := by unfold rBytes; rw [if_pos hz]
    have s4 := (s1.then s3).then (Same.set1 h3 k (.cells [bv, .int .i64 s.1, .int .i64 (rNum bs 4 s).2.2] T false))
    rw [eb]
    exact ⟨ob.set s1 (Same.refl _ (onlyS k)) s3 r.rd, r.next r4 s4 r.pos, s4⟩
theorem build74 : aBuild Try.prog 113 [(0, .agg #[.slice none 0 0, .int .i64 0, .int .i64 0])] = some (.agg #[.slice none 0 0, .int .i64 0, .int .i64 0]) := by kernel_rfl
theorem newReader_am (bv : Value) (bs : List Int) (h : Heap) (hr : Row h bv (bs.map (Value.int .u8))) (hlen : bs.length ≤ 1000000000) (hby : ∀ b ∈ bs, 0 ≤ b ∧ b < 256) :
    Cl Try.prog 21 [bv] h fun v h' => ∃ k bv', v = .pointer (some ⟨k, 0, none⟩) ∧ h.next ≤ k ∧ RdOK h' k 113 bv' bs (0, 0) ∧ Buf h' 5 bv' (bs.map (Value.int .u8)) ∧ (∀ j, bufBlk bv' j → h.next ≤ j) ∧ Same h h' noS := by
  refine Cl.enter Try.func21 rfl 8 Try.ntmps21 (by simp) ?_
  intro env hl ha
  have h0 : sl env 0 = bv := ha 0 (by simp)
  clear ha
  repeat (first | (with_reducible refine Wp.st ?_; simp only [wS]) | with_reducible refine Wp.drawS (by decide +kernel) ?_ | simp (disch := (first | (simp only [List.length_set, hl]; omega) | (simp only [List.length_set, el]; omega) | omega | rfl)) only [walkA, walkB, bne_self_eq_false, beq_self_eq_true, Option.map_some, Option.map_none, reduceIte, decide_true, decide_false, Int.reduceLT, Int.reduceLE, Int.reduceMul, Int.reduceAdd, Int.reduceSub, h0])
  refine (clone_am bv _ h hr (ints_all _ _) (by simpa using hlen)).mono ?_
  rintro out h2 ⟨hb2, hs2, hf2⟩
  obtain ⟨oa, on, oc, rfl⟩ := buf_slice hb2
  have hb1 : aBuild Try.prog 111 [(0, .slice oa on oc)] = some (.agg #[.slice oa on oc, .int .i64 0, .int .i64 0]) := by kernel_rfl
  have hb3 : aBuild Try.prog 113 [(0, .agg #[.slice oa on oc, .int .i64 0, .int .i64 0])] = some (.agg #[.slice oa on oc, .int .i64 0, .int .i64 0]) := by kernel_rfl
  have hb4 : ∀ hh, aBox hh 113 (.agg #[.slice oa on oc, .int .i64 0, .int .i64 0]) = some (.pointer (some ⟨hh.next, 0, none⟩), hh.push (.cells [.slice oa on oc, .int .i64 0, .int .i64 0] 113 false)) := fun hh => by kernel_rfl
  repeat (first | (with_reducible refine Wp.st ?_; simp only [wS]) | with_reducible refine Wp.drawS (by decide +kernel) ?_ | simp (disch := (first | (simp only [List.length_set, hl]; omega) | (simp only [List.length_set, el]; omega) | omega | rfl)) only [walkA, walkB, bne_self_eq_false, beq_self_eq_true, Option.map_some, Option.map_none, reduceIte, decide_true, decide_false, Int.reduceLT, Int.reduceLE, Int.reduceMul, Int.reduceAdd, Int.reduceSub, h0, hb1, hb3, hb4])
  simp (disch := (first | (simp only [List.length_set, hl]; omega) | (simp only [List.length_set, el]; omega) | omega | rfl)) only [aRes_one Try.results21, sL]
  have hsp : Same h2 (h2.push (.cells [.slice oa on oc, .int .i64 0, .int .i64 0] 113 false)) noS := Same.push _ _ _
  have hb5 := hb2.same hsp (fun _ _ x => x)
  refine ⟨h2.next, .slice oa on oc, rfl, hs2.1, ⟨Heap.get_push_new, hb5.rowX, ?_, hlen, Nat.zero_le _, hby⟩, hb5, hf2, hs2.then hsp⟩
  intro a n c e hn
  have := hb2.blk e
  omega
end Go.Proofs.Ytanknjpcgceccaa

namespace Go.Proofs.Ytanknjpcgceccaa
open Go Go.AM
set_option maxRecDepth 100000
abbrev TR : TypeId := 75
section
variable {k off : Nat}
theorem faX0 : aFieldAddr Try.prog 75 (.pointer (some ⟨k, off, none⟩)) 0 = some (.pointer (some ⟨k, off, none⟩)) := by kernel_rfl
theorem faX1 : aFieldAddr Try.prog 75 (.pointer (some ⟨k, off, none⟩)) 1 = some (.pointer (some ⟨k, off + 1, none⟩)) := by kernel_rfl
theorem faX2 : aFieldAddr Try.prog 75 (.pointer (some ⟨k, off, none⟩)) 2 = some (.pointer (some ⟨k, off + 2, none⟩)) := by kernel_rfl
end
section
variable {h : Heap} {k : Nat} {T : TypeId} {bv : Value} {s : Nat × Int}
theorem RD.x (r : RD h k T bv s) : aLoad Try.prog h 3 (.pointer (some ⟨k, 0 + 2, none⟩)) = some (.int .i64 s.2) := by rw [aLoad_at Try.underlying3 (by simp) (by simp) r]; rfl
theorem RD.wx (r : RD h k T bv s) (n : Int) : aStore Try.prog h 3 (.pointer (some ⟨k, 0 + 2, none⟩)) (.int .i64 n) = some (h.set k (.cells [bv, .int .i64 s.1, .int .i64 n] T false)) := by rw [aStore_at i3' rfl r (0 + 2) (by simp) rfl rfl]; rfl
end
theorem xFail_am (at0 : Nat) (x : Int) (k : Nat) (T : TypeId) (bv : Value) (s : Nat × Int) (h : Heap) (r : RD h k T bv s) :
    Cl Try.prog 63 [.pointer (some ⟨k, 0, none⟩), .int .i64 at0, .int .i64 x] h fun v h' => v = .tuple #[] ∧ RD h' k T bv (at0, x) ∧ Same h h' (onlyS k) := by
  refine Cl.enter Try.func63 rfl 14 Try.ntmps63 (by simp) ?_
  intro env hl ha
  have h0 : sl env 0 = .pointer (some ⟨k, 0, none⟩) := ha 0 (by simp)
  have h1 : sl env 1 = .int .i64 at0 := ha 1 (by simp)
  have h2 : sl env 2 = .int .i64 x := ha 2 (by simp)
  clear ha
  have wp := r.wp at0
  have r1 := r.setp at0
  have wx := r1.wx x
  have r2 := r1.sete x
  repeat (first | (with_reducible refine Wp.st ?_; simp only [wS]) | with_reducible refine Wp.drawS (by decide +kernel) ?_ | simp (disch := (first | (simp only [List.length_set, hl]; omega) | (simp only [List.length_set, el]; omega) | omega | rfl)) only [walkA, walkB, bne_self_eq_false, beq_self_eq_true, Option.map_some, Option.map_none, reduceIte, decide_true, decide_false, Int.reduceLT, Int.reduceLE, Int.reduceMul, Int.reduceAdd, Int.reduceSub, h0, h1, h2, faX1, faX2, wp, wx])
  simp only [aRes_none Try.results63]
  exact ⟨trivial, r2, (Same.set1 _ _ _).then (Same.set1 _ _ _)⟩
theorem xNumber_am (n : Nat) (hn : n = 4 ∨ n = 8) (k : Nat) (T : TypeId) (bv : Value) (bs : List Int) (s : Nat × Int) (h : Heap) (r : RdOK h k T bv bs s) :
    Cl Try.prog 62 [.pointer (some ⟨k, 0, none⟩), .int .i64 n] h fun v h' => v = .int .u64 (rNum bs n s).1 ∧ RdOK h' k T bv bs (rNum bs n s).2 ∧ Same h h' (onlyS k) := by
  refine Cl.enter Try.func62 rfl 40 Try.ntmps62 (by simp) ?_
  intro env hl ha
  have h0 : sl env 0 = .pointer (some ⟨k, 0, none⟩) := ha 0 (by simp)
  have h1 : sl env 1 = .int .i64 n := ha 1 (by simp)
  clear ha
  have lx := r.rd.x
  have hln := r.len
  by_cases hz : s.2 ≠ 0
  · have hzb : (s.2 != 0) = true := by simpa using hz
    repeat (first | (with_reducible refine Wp.st ?_; simp only [wS]) | with_reducible refine Wp.drawS (by decide +kernel) ?_ | simp (disch := (first | (simp only [List.length_set, hl]; omega) | (simp only [List.length_set, el]; omega) | omega | rfl)) only [walkA, walkB, bne_self_eq_false, beq_self_eq_true, Option.map_some, Option.map_none, reduceIte, decide_true, decide_false, Int.reduceLT, Int.reduceLE, Int.reduceMul, Int.reduceAdd, Int.reduceSub, h0, h1, faX2, lx, hzb])
    refine Wp.cond_true (by first | ((simp (disch := (first | (simp only [List.length_set, hl]; omega) | (simp only [List.length_set, el]; omega) | omega | rfl)) only [sL, aEval_tmp]); done) | ((simp (disch := (first | (simp only [List.length_set, hl]; omega) | (simp only [List.length_set, el]; omega) | omega | rfl)) only [sL, aEval_tmp]); rfl)) ?_
    repeat (first | (with_reducible refine Wp.st ?_; simp only [wS]) | with_reducible refine Wp.drawS (by decide +kernel) ?_ | simp (disch := (first | (simp only [List.length_set, hl]; omega) | (simp only [List.length_set, el]; omega) | omega | rfl)) only [walkA, walkB, bne_self_eq_false, beq_self_eq_true, Option.map_some, Option.map_none, reduceIte, decide_true, decide_false, Int.reduceLT, Int.reduceLE, Int.reduceMul, Int.reduceAdd, Int.reduceSub, h0, h1])
    simp (disch := (first | (simp only [List.length_set, hl]; omega) | (simp only [List.length_set, el]; omega) | omega | rfl)) only [aRes_one Try.results62, sL]
    have e1 : rNum bs n s = (0, s) := by unfold rNum; rw [if_pos hz]
    rw [e1]
    exact ⟨rfl, r, Same.refl _ _⟩
  have hz' : s.2 = 0 := by omega
  have hzb : (s.2 != 0) = false := by simp [hz']
  have lb := r.rd.b
  have lp := r.rd.p
  repeat (first | (with_reducible refine Wp.st ?_; simp only [wS]) | with_reducible refine Wp.drawS (by decide +kernel) ?_ | simp (disch := (first | (simp only [List.length_set, hl]; omega) | (simp only [List.length_set, el]; omega) | omega | rfl)) only [walkA, walkB, bne_self_eq_false, beq_self_eq_true, Option.map_some, Option.map_none, reduceIte, decide_true, decide_false, Int.reduceLT, Int.reduceLE, Int.reduceMul, Int.reduceAdd, Int.reduceSub, h0, h1, faX2, lx, hzb])
  refine Wp.cond_false (by first | ((simp (disch := (first | (simp only [List.length_set, hl]; omega) | (simp only [List.length_set, el]; omega) | omega | rfl)) only [sL, aEval_tmp]); done) | ((simp (disch := (first | (simp only [List.length_set, hl]; omega) | (simp only [List.length_set, el]; omega) | omega | rfl)) only [sL, aEval_tmp]); rfl)) ?_
  repeat (first | (with_reducible refine Wp.st ?_; simp only [wS]) | with_reducible refine Wp.drawS (by decide +kernel) ?_ | simp (disch := (first | (simp only [List.length_set, hl]; omega) | (simp only [List.length_set, el]; omega) | omega | rfl)) only [walkA, walkB, bne_self_eq_false, beq_self_eq_true, Option.map_some, Option.map_none, reduceIte, decide_true, decide_false, Int.reduceLT, Int.reduceLE, Int.reduceMul, Int.reduceAdd, Int.reduceSub, h0, h1, faX0, faX1, lb, lp])
  refine (refBe_am n s.1 hn bv bs h r.row.row r.len r.pos).mono ?_
  rintro v h' ⟨rfl, rfl⟩
  by_cases hle : s.1 + n ≤ bs.length
  · have hbe : beR bs s.1 n = .tuple #[.int .u64 (beF 0 ((bs.drop s.1).take n)), .int .i64 0] := by unfold beR; rw [if_pos hle]
    have e1 : rNum bs n s = (beF 0 ((bs.drop s.1).take n), s.1 + n, 0) := by unfold rNum; rw [if_neg hz, if_pos hle]
    rw [e1]
    generalize beF 0 ((bs.drop s.1).take n) = x at hbe ⊢
    have x0 : aExtract (.tuple #[.int .u64 x, .int .i64 0]) 0 = some (.int .u64 x) := rfl
    have x1 : aExtract (.tuple #[.int .u64 x, .int .i64 0]) 1 = some (.int .i64 0) := rfl
    have wp := r.rd.wp (s.1 + n)
    have r3 := r.rd.setp (s.1 + n)
    repeat (first | (with_reducible refine Wp.st ?_; simp only [wS]) | with_reducible refine Wp.drawS (by decide +kernel) ?_ | simp (disch := (first | (simp only [List.length_set, hl]; omega) | (simp only [List.length_set, el]; omega) | omega | rfl)) only [walkA, walkB, bne_self_eq_false, beq_self_eq_true, Option.map_some, Option.map_none, reduceIte, decide_true, decide_false, Int.reduceLT, Int.reduceLE, Int.reduceMul, Int.reduceAdd, Int.reduceSub, h0, h1, hbe, x0, x1])
    refine Wp.cond_false (by first | ((simp (disch := (first | (simp only [List.length_set, hl]; omega) | (simp only [List.length_set, el]; omega) | omega | rfl)) only [sL, aEval_tmp]); done) | ((simp (disch := (first | (simp only [List.length_set, hl]; omega) | (simp only [List.length_set, el]; omega) | omega | rfl)) only [sL, aEval_tmp]); rfl)) ?_
    repeat (first | (with_reducible refine Wp.st ?_; simp only [wS]) | with_reducible refine Wp.drawS (by decide +kernel) ?_ | simp (disch := (first | (simp only [List.length_set, hl]; omega) | (simp only [List.length_set, el]; omega) | omega | rfl)) only [walkA, walkB, bne_self_eq_false, beq_self_eq_true, Option.map_some, Option.map_none, reduceIte, decide_true, decide_false, Int.reduceLT, Int.reduceLE, Int.reduceMul, Int.reduceAdd, Int.reduceSub, h0, h1, faX1, lp, wp])
    simp (disch := (first | (simp only [List.length_set, hl]; omega) | (simp only [List.length_set, el]; omega) | omega | rfl)) only [aRes_one Try.results62, sL]
    refine ⟨trivial, ?_, Same.set1 _ _ _⟩
    rw [hz'] at r3
    have := r.next (s' := (s.1 + n, 0)) r3 (Same.set1 _ _ _) hle
    simpa [hz'] using this
  · have hbe : beR bs s.1 n = .tuple #[.int .u64 0, .int .i64 11] := by unfold beR; rw [if_neg hle]
    have e1 : rNum bs n s = (0, s.1, 11) := by unfold rNum; rw [if_neg hz, if_neg hle]
    rw [e1]
    have x0 : aExtract (.tuple #[.int .u64 0, .int .i64 11]) 0 = some (.int .u64 0) := rfl
    have x1 : aExtract (.tuple #[.int .u64 0, .int .i64 11]) 1 = some (.int .i64 11) := rfl
    have wx := r.rd.wx 11
    have r3 := r.rd.sete 11
    repeat (first | (with_reducible refine Wp.st ?_; simp only [wS]) | with_reducible refine Wp.drawS (by decide +kernel) ?_ | simp (disch := (first | (simp only [List.length_set, hl]; omega) | (simp only [List.length_set, el]; omega) | omega | rfl)) only [walkA, walkB, bne_self_eq_false, beq_self_eq_true, Option.map_some, Option.map_none, reduceIte, decide_true, decide_false, Int.reduceLT, Int.reduceLE, Int.reduceMul, Int.reduceAdd, Int.reduceSub, h0, h1, hbe, x0, x1])
    refine Wp.cond_true (by first | ((simp (disch := (first | (simp only [List.length_set, hl]; omega) | (simp only [List.length_set, el]; omega) | omega | rfl)) only [sL, aEval_tmp]); done) | ((simp (disch := (first | (simp only [List.length_set, hl]; omega) | (simp only [List.length_set, el]; omega) | omega | rfl)) only [sL, aEval_tmp]); rfl)) ?_
    repeat (first | (with_reducible refine Wp.st ?_; simp only [wS]) | with_reducible refine Wp.drawS (by decide +kernel) ?_ | simp (disch := (first | (simp only [List.length_set, hl]; omega) | (simp only [List.length_set, el]; omega) | omega | rfl)) only [walkA, walkB, bne_self_eq_false, beq_self_eq_true, Option.map_some, Option.map_none, reduceIte, decide_true, decide_false, Int.reduceLT, Int.reduceLE, Int.reduceMul, Int.reduceAdd, Int.reduceSub, h0, h1, faX2, wx])
    simp (disch := (first | (simp only [List.length_set, hl]; omega) | (simp only [List.length_set, el]; omega) | omega | rfl)) only [aRes_one Try.results62, sL]
    exact ⟨trivial, r.next r3 (Same.set1 _ _ _) r.pos, Same.set1 _ _ _⟩
section
variable (k : Nat) (T : TypeId) (bv : Value) (bs : List Int) (s : Nat × Int) (h : Heap)
theorem xU32_am (r : RdOK h k T bv bs s) :
    Cl Try.prog 64 [.pointer (some ⟨k, 0, none⟩)] h fun v h' => v = .int .u32 (IntKind.u32.wrap (rNum bs 4 s).1) ∧ RdOK h' k T bv bs (rNum bs 4 s).2 ∧ Same h h' (onlyS k) := by
  refine Cl.enter Try.func64 rfl 6 Try.ntmps64 (by simp) ?_
  intro env hl ha
  have h0 : sl env 0 = .pointer (some ⟨k, 0, none⟩) := ha 0 (by simp)
  clear ha
  have hcv := fun x hx => conv_int (h := hx) (k' := .u64) (n := x) Try.underlying24 Try.underlying23
  repeat (first | (with_reducible refine Wp.st ?_; simp only [wS]) | with_reducible refine Wp.drawS (by decide +kernel) ?_ | simp (disch := (first | (simp only [List.length_set, hl]; omega) | (simp only [List.length_set, el]; omega) | omega | rfl)) only [walkA, walkB, bne_self_eq_false, beq_self_eq_true, Option.map_some, Option.map_none, reduceIte, decide_true, decide_false, Int.reduceLT, Int.reduceLE, Int.reduceMul, Int.reduceAdd, Int.reduceSub, h0])
  refine (xNumber_am 4 (.inl rfl) k T bv bs s h r).mono ?_
  rintro v h' ⟨rfl, r', hs⟩
  repeat (first | (with_reducible refine Wp.st ?_; simp only [wS]) | with_reducible refine Wp.drawS (by decide +kernel) ?_ | simp (disch := (first | (simp only [List.length_set, hl]; omega) | (simp only [List.length_set, el]; omega) | omega | rfl)) only [walkA, walkB, bne_self_eq_false, beq_self_eq_true, Option.map_some, Option.map_none, reduceIte, decide_true, decide_false, Int.reduceLT, Int.reduceLE, Int.reduceMul, Int.reduceAdd, Int.reduceSub, h0, hcv])
  simp (disch := (first | (simp only [List.length_set, hl]; omega) | (simp only [List.length_set, el]; omega) | omega | rfl)) only [aRes_one Try.results64, sL]
  exact ⟨trivial, r', hs⟩
theorem xU64_am (r : RdOK h k T bv bs s) :
    Cl Try.prog 31 [.pointer (some ⟨k, 0, none⟩)] h fun v h' => v = .int .u64 (rNum bs 8 s).1 ∧ RdOK h' k T bv bs (rNum bs 8 s).2 ∧ Same h h' (onlyS k) := by
  refine Cl.enter Try.func31 rfl 5 Try.ntmps31 (by simp) ?_
  intro env hl ha
  have h0 : sl env 0 = .pointer (some ⟨k, 0, none⟩) := ha 0 (by simp)
  clear ha
  repeat (first | (with_reducible refine Wp.st ?_; simp only [wS]) | with_reducible refine Wp.drawS (by decide +kernel) ?_ | simp (disch := (first | (simp only [List.length_set, hl]; omega) | (simp only [List.length_set, el]; omega) | omega | rfl)) only [walkA, walkB, bne_self_eq_false, beq_self_eq_true, Option.map_some, Option.map_none, reduceIte, decide_true, decide_false, Int.reduceLT, Int.reduceLE, Int.reduceMul, Int.reduceAdd, Int.reduceSub, h0])
  refine (xNumber_am 8 (.inr rfl) k T bv bs s h r).mono ?_
  rintro v h' ⟨rfl, r', hs⟩
  repeat (first | (with_reducible refine Wp.st ?_; simp only [wS]) | with_reducible refine Wp.drawS (by decide +kernel) ?_ | simp (disch := (first | (simp only [List.length_set, hl]; omega) | (simp only [List.length_set, el]; omega) | omega | rfl)) only [walkA, walkB, bne_self_eq_false, beq_self_eq_true, Option.map_some, Option.map_none, reduceIte, decide_true, decide_false, Int.reduceLT, Int.reduceLE, Int.reduceMul, Int.reduceAdd, Int.reduceSub, h0])
  simp (disch := (first | (simp only [List.length_set, hl]; omega) | (simp only [List.length_set, el]; omega) | omega | rfl)) only [aRes_one Try.results31, sL]
  exact ⟨trivial, r', hs⟩
theorem rNum_gt {n : Nat} (hgt : (rNum bs n s).1 > 1) : (rNum bs n s).2.2 = 0 := by
  unfold rNum at hgt ⊢
  split
  · rename_i hh; rw [if_pos hh] at hgt; simp at hgt
  · rename_i hh; rw [if_neg hh] at hgt
    split
    · rfl
    · rename_i h2; rw [if_neg h2] at hgt; simp at hgt
theorem rNum_err {n : Nat} (he : (rNum bs n s).2.2 ≠ 0) : (rNum bs n s).1 = 0 ∧ (rNum bs n s).2.1 = s.1 := by
  unfold rNum at he ⊢
  split
  · exact ⟨rfl, rfl⟩
  · rename_i hh; rw [if_neg hh] at he
    split
    · rename_i h2; rw [if_pos h2] at he; exact absurd rfl he
    · exact ⟨rfl, rfl⟩
theorem xBool_am (r : RdOK h k T bv bs s) :
    Cl Try.prog 28 [.pointer (some ⟨k, 0, none⟩)] h fun v h' => v = .bool (rBool bs s).1 ∧ RdOK h' k T bv bs (rBool bs s).2 ∧ Same h h' (onlyS k) := by
  refine Cl.enter Try.func28 rfl 25 Try.ntmps28 (by simp) ?_
  intro env hl ha
  have h0 : sl env 0 = .pointer (some ⟨k, 0, none⟩) := ha 0 (by simp)
  clear ha
  have lp := r.rd.p
  repeat (first | (with_reducible refine Wp.st ?_; simp only [wS]) | with_reducible refine Wp.drawS (by decide +kernel) ?_ | simp (disch := (first | (simp only [List.length_set, hl]; omega) | (simp only [List.length_set, el]; omega) | omega | rfl)) only [walkA, walkB, bne_self_eq_false, beq_self_eq_true, Option.map_some, Option.map_none, reduceIte, decide_true, decide_false, Int.reduceLT, Int.reduceLE, Int.reduceMul, Int.reduceAdd, Int.reduceSub, h0, faX1, lp])
  refine (xNumber_am 4 (.inl rfl) k T bv bs s h r).mono ?_
  rintro v h' ⟨rfl, r', hs⟩
  have lx := r'.rd.x
  by_cases hgt : (rNum bs 4 s).1 > 1
  · have hz := rNum_gt bs s hgt
    have d0 : ((rNum bs 4 s).2.2 == 0) = true := by simpa using hz
    have d1 : decide ((rNum bs 4 s).1 > 1) = true := by simpa using hgt
    repeat (first | (with_reducible refine Wp.st ?_; simp only [wS]) | with_reducible refine Wp.drawS (by decide +kernel) ?_ | simp (disch := (first | (simp only [List.length_set, hl]; omega) | (simp only [List.length_set, el]; omega) | omega | rfl)) only [walkA, walkB, bne_self_eq_false, beq_self_eq_true, Option.map_some, Option.map_none, reduceIte, decide_true, decide_false, Int.reduceLT, Int.reduceLE, Int.reduceMul, Int.reduceAdd, Int.reduceSub, h0, faX2, lx, d0, d1])
    refine Wp.cond_true (by first | ((simp (disch := (first | (simp only [List.length_set, hl]; omega) | (simp only [List.length_set, el]; omega) | omega | rfl)) only [sL, aEval_tmp]); done) | ((simp (disch := (first | (simp only [List.length_set, hl]; omega) | (simp only [List.length_set, el]; omega) | omega | rfl)) only [sL, aEval_tmp]); rfl)) ?_
    repeat (first | (with_reducible refine Wp.st ?_; simp only [wS]) | with_reducible refine Wp.drawS (by decide +kernel) ?_ | simp (disch := (first | (simp only [List.length_set, hl]; omega) | (simp only [List.length_set, el]; omega) | omega | rfl)) only [walkA, walkB, bne_self_eq_false, beq_self_eq_true, Option.map_some, Option.map_none, reduceIte, decide_true, decide_false, Int.reduceLT, Int.reduceLE, Int.reduceMul, Int.reduceAdd, Int.reduceSub, h0])
    refine (xFail_am s.1 15 k T bv _ h' r'.rd).mono ?_
    rintro v h3 ⟨rfl, r3, s3⟩
    repeat (first | (with_reducible refine Wp.st ?_; simp only [wS]) | with_reducible refine Wp.drawS (by decide +kernel) ?_ | simp (disch := (first | (simp only [List.length_set, hl]; omega) | (simp only [List.length_set, el]; omega) | omega | rfl)) only [walkA, walkB, bne_self_eq_false, beq_self_eq_true, Option.map_some, Option.map_none, reduceIte, decide_true, decide_false, Int.reduceLT, Int.reduceLE, Int.reduceMul, Int.reduceAdd, Int.reduceSub, h0])
    simp (disch := (first | (simp only [List.length_set, hl]; omega) | (simp only [List.length_set, el]; omega) | omega | rfl)) only [aRes_one Try.results28, sL]
    have e1 : rBool bs s = (false, s.1, 15) := by unfold rBool; rw [if_pos hgt]
    rw [e1]
    exact ⟨rfl, r.next r3 (hs.then s3) r.pos, hs.then s3⟩
  · have e1 : rBool bs s = ((rNum bs 4 s).1 == 1, (rNum bs 4 s).2) := by unfold rBool; rw [if_neg hgt]
    have d1 : decide ((rNum bs 4 s).1 > 1) = false := by simpa using hgt
    by_cases hz : (rNum bs 4 s).2.2 = 0
    · have d0 : ((rNum bs 4 s).2.2 == 0) = true := by simpa using hz
      repeat (first | (with_reducible refine Wp.st ?_; simp only [wS]) | with_reducible refine Wp.drawS (by decide +kernel) ?_ | simp (disch := (first | (simp only [List.length_set, hl]; omega) | (simp only [List.length_set, el]; omega) | omega | rfl)) only [walkA, walkB, bne_self_eq_false, beq_self_eq_true, Option.map_some, Option.map_none, reduceIte, decide_true, decide_false, Int.reduceLT, Int.reduceLE, Int.reduceMul, Int.reduceAdd, Int.reduceSub, h0, faX2, lx, d0, d1])
      refine Wp.cond_false (by first | ((simp (disch := (first | (simp only [List.length_set, hl]; omega) | (simp only [List.length_set, el]; omega) | omega | rfl)) only [sL, aEval_tmp]); done) | ((simp (disch := (first | (simp only [List.length_set, hl]; omega) | (simp only [List.length_set, el]; omega) | omega | rfl)) only [sL, aEval_tmp]); rfl)) ?_
      repeat (first | (with_reducible refine Wp.st ?_; simp only [wS]) | with_reducible refine Wp.drawS (by decide +kernel) ?_ | simp (disch := (first | (simp only [List.length_set, hl]; omega) | (simp only [List.length_set, el]; omega) | omega | rfl)) only [walkA, walkB, bne_self_eq_false, beq_self_eq_true, Option.map_some, Option.map_none, reduceIte, decide_true, decide_false, Int.reduceLT, Int.reduceLE, Int.reduceMul, Int.reduceAdd, Int.reduceSub, h0])
      simp (disch := (first | (simp only [List.length_set, hl]; omega) | (simp only [List.length_set, el]; omega) | omega | rfl)) only [aRes_one Try.results28, sL]
      rw [e1]
      exact ⟨rfl, r', hs⟩
    · have d0 : ((rNum bs 4 s).2.2 == 0) = false := by simpa using hz
      repeat (first | (with_reducible refine Wp.st ?_; simp only [wS]) | with_reducible refine Wp.drawS (by decide +kernel) ?_ | simp (disch := (first | (simp only [List.length_set, hl]; omega) | (simp only [List.length_set, el]; omega) | omega | rfl)) only [walkA, walkB, bne_self_eq_false, beq_self_eq_true, Option.map_some, Option.map_none, reduceIte, decide_true, decide_false, Int.reduceLT, Int.reduceLE, Int.reduceMul, Int.reduceAdd, Int.reduceSub, h0, faX2, lx, d0, d1])
      refine Wp.cond_false (by first | ((simp (disch := (first | (simp only [List.length_set, hl]; omega) | (simp only [List.length_set, el]; omega) | omega | rfl)) only [sL, aEval_tmp]); done) | ((simp (disch := (first | (simp only [List.length_set, hl]; omega) | (simp only [List.length_set, el]; omega) | omega | rfl)) only [sL, aEval_tmp]); rfl)) ?_
      repeat (first | (with_reducible refine Wp.st ?_; simp only [wS]) | with_reducible refine Wp.drawS (by decide +kernel) ?_ | simp (disch := (first | (simp only [List.length_set, hl]; omega) | (simp only [List.length_set, el]; omega) | omega | rfl)) only [walkA, walkB, bne_self_eq_false, beq_self_eq_true, Option.map_some, Option.map_none, reduceIte, decide_true, decide_false, Int.reduceLT, Int.reduceLE, Int.reduceMul, Int.reduceAdd, Int.reduceSub, h0])
      simp (disch := (first | (simp only [List.length_set, hl]; omega) | (simp only [List.length_set, el]; omega) | omega | rfl)) only [aRes_one Try.results28, sL]
      rw [e1]
      exact ⟨rfl, r', hs⟩
theorem xLeft_am (r : RdOK h k T bv bs s) : Cl Try.prog 35 [.pointer (some ⟨k, 0, none⟩)] h fun v h' => v = .int .i64 ((bs.length : Int) - s.1) ∧ h' = h := by
  refine Cl.enter Try.func35 rfl 13 Try.ntmps35 (by simp) ?_
  intro env hl ha
  have h0 : sl env 0 = .pointer (some ⟨k, 0, none⟩) := ha 0 (by simp)
  clear ha
  have lb := r.rd.b
  have lp := r.rd.p
  have hl2 := len_any r.row.row Try.underlying22
  simp only [List.length_map] at hl2
  have hp := r.pos
  have hln := r.len
  repeat (first | (with_reducible refine Wp.st ?_; simp only [wS]) | with_reducible refine Wp.drawS (by decide +kernel) ?_ | simp (disch := (first | (simp only [List.length_set, hl]; omega) | (simp only [List.length_set, el]; omega) | omega | rfl)) only [walkA, walkB, bne_self_eq_false, beq_self_eq_true, Option.map_some, Option.map_none, reduceIte, decide_true, decide_false, Int.reduceLT, Int.reduceLE, Int.reduceMul, Int.reduceAdd, Int.reduceSub, h0, faX0, faX1, lb, lp, hl2])
  simp (disch := (first | (simp only [List.length_set, hl]; omega) | (simp only [List.length_set, el]; omega) | omega | rfl)) only [aRes_one Try.results35, sL]
  exact ⟨trivial, trivial⟩
end
set_option maxHeartbeats 1000000 in
theorem xFixed_am (n : Int) (hn1 : -9223372036854775808 ≤ n) (hn2 : n ≤ 9223372036854775807) (k : Nat) (T : TypeId) (bv : Value) (bs : List Int) (s : Nat × Int) (h : Heap) (r : RdOK h k T bv bs s) :
    Cl Try.prog 65 [.pointer (some ⟨k, 0, none⟩), .int .i64 n] h fun v h' => OutB h h' v (rFixed bs n s).1 ∧ RdOK h' k T bv bs (rFixed bs n s).2 ∧ Same h h' (onlyS k) := by
  refine Cl.enter Try.func65 rfl 88 Try.ntmps65 (by simp) ?_
  intro env hl ha
  have h0 : sl env 0 = .pointer (some ⟨k, 0, none⟩) := ha 0 (by simp)
  have h1 : sl env 1 = .int .i64 n := ha 1 (by simp)
  clear ha
  have hln := r.len
  have hps := r.pos
  have lx := r.rd.x
  by_cases hz : s.2 ≠ 0
  · have hzb : (s.2 != 0) = true := by simpa using hz
    repeat (first | (with_reducible refine Wp.st ?_; simp only [wS]) | with_reducible refine Wp.drawS (by decide +kernel) ?_ | simp (disch := (first | (simp only [List.length_set, hl]; omega) | (simp only [List.length_set, el]; omega) | omega | rfl)) only [walkA, walkB, bne_self_eq_false, beq_self_eq_true, Option.map_some, Option.map_none, reduceIte, decide_true, decide_false, Int.reduceLT, Int.reduceLE, Int.reduceMul, Int.reduceAdd, Int.reduceSub, h0, h1, faX2, lx, hzb])
    refine Wp.cond_true (by first | ((simp (disch := (first | (simp only [List.length_set, hl]; omega) | (simp only [List.length_set, el]; omega) | omega | rfl)) only [sL, aEval_tmp]); done) | ((simp (disch := (first | (simp only [List.length_set, hl]; omega) | (simp only [List.length_set, el]; omega) | omega | rfl)) only [sL, aEval_tmp]); rfl)) ?_
    repeat (first | (with_reducible refine Wp.st ?_; simp only [wS]) | with_reducible refine Wp.drawS (by decide +kernel) ?_ | simp (disch := (first | (simp only [List.length_set, hl]; omega) | (simp only [List.length_set, el]; omega) | omega | rfl)) only [walkA, walkB, bne_self_eq_false, beq_self_eq_true, Option.map_some, Option.map_none, reduceIte, decide_true, decide_false, Int.reduceLT, Int.reduceLE, Int.reduceMul, Int.reduceAdd, Int.reduceSub, h0, h1])
    simp (disch := (first | (simp only [List.length_set, hl]; omega) | (simp only [List.length_set, el]; omega) | omega | rfl)) only [aRes_one Try.results65, sL]
    have e1 : rFixed bs n s = ([], s) := by unfold rFixed; rw [if_pos hz]
    rw [e1]
    exact ⟨OutB.nil, r, Same.refl _ _⟩
  have hz' : s.2 = 0 := by omega
  have hzb : (s.2 != 0) = false := by simp [hz']
  by_cases hneg : n < 0
  · have d1 : decide (n < 0) = true := by simpa using hneg
    have wx := r.rd.wx 1
    have r3 := r.rd.sete 1
    repeat (first | (with_reducible refine Wp.st ?_; simp only [wS]) | with_reducible refine Wp.drawS (by decide +kernel) ?_ | simp (disch := (first | (simp only [List.length_set, hl]; omega) | (simp only [List.length_set, el]; omega) | omega | rfl)) only [walkA, walkB, bne_self_eq_false, beq_self_eq_true, Option.map_some, Option.map_none, reduceIte, decide_true, decide_false, Int.reduceLT, Int.reduceLE, Int.reduceMul, Int.reduceAdd, Int.reduceSub, h0, h1, faX2, lx, hzb])
    refine Wp.cond_false (by first | ((simp (disch := (first | (simp only [List.length_set, hl]; omega) | (simp only [List.length_set, el]; omega) | omega | rfl)) only [sL, aEval_tmp]); done) | ((simp (disch := (first | (simp only [List.length_set, hl]; omega) | (simp only [List.length_set, el]; omega) | omega | rfl)) only [sL, aEval_tmp]); rfl)) ?_
    repeat (first | (with_reducible refine Wp.st ?_; simp only [wS]) | with_reducible refine Wp.drawS (by decide +kernel) ?_ | simp (disch := (first | (simp only [List.length_set, hl]; omega) | (simp only [List.length_set, el]; omega) | omega | rfl)) only [walkA, walkB, bne_self_eq_false, beq_self_eq_true, Option.map_some, Option.map_none, reduceIte, decide_true, decide_false, Int.reduceLT, Int.reduceLE, Int.reduceMul, Int.reduceAdd, Int.reduceSub, h0, h1, d1])
    refine Wp.cond_true (by first | ((simp (disch := (first | (simp only [List.length_set, hl]; omega) | (simp only [List.length_set, el]; omega) | omega | rfl)) only [sL, aEval_tmp]); done) | ((simp (disch := (first | (simp only [List.length_set, hl]; omega) | (simp only [List.length_set, el]; omega) | omega | rfl)) only [sL, aEval_tmp]); rfl)) ?_
    repeat (first | (with_reducible refine Wp.st ?_; simp only [wS]) | with_reducible refine Wp.drawS (by decide +kernel) ?_ | simp (disch := (first | (simp only [List.length_set, hl]; omega) | (simp only [List.length_set, el]; omega) | omega | rfl)) only [walkA, walkB, bne_self_eq_false, beq_self_eq_true, Option.map_some, Option.map_none, reduceIte, decide_true, decide_false, Int.reduceLT, Int.reduceLE, Int.reduceMul, Int.reduceAdd, Int.reduceSub, h0, h1, faX2, wx])
    simp (disch := (first | (simp only [List.length_set, hl]; omega) | (simp only [List.length_set, el]; omega) | omega | rfl)) only [aRes_one Try.results65, sL]
    have e1 : rFixed bs n s = ([], s.1, 1) := by unfold rFixed; rw [if_neg hz, if_pos hneg]
    rw [e1]
    exact ⟨OutB.nil, r.next r3 (Same.set1 _ _ _) r.pos, Same.set1 _ _ _⟩
  obtain ⟨m, rfl⟩ : ∃ m : Nat, n = m := ⟨n.toNat, by omega⟩
  have d1 : decide ((m : Int) < 0) = false := by simp
  have hpd := pad_le m
  have a0 : ((m : Int) + 3).tdiv 4 = (((m + 3) / 4 : Nat) : Int) := by rw [Int.tdiv_eq_ediv_of_nonneg (by omega)]; omega
  have a3 : (((m + 3) / 4 : Nat) : Int) * 4 = ((m + pad m : Nat) : Int) := by unfold pad; omega
  repeat (first | (with_reducible refine Wp.st ?_; simp only [wS]) | with_reducible refine Wp.drawS (by decide +kernel) ?_ | simp (disch := (first | (simp only [List.length_set, hl]; omega) | (simp only [List.length_set, el]; omega) | omega | rfl)) only [walkA, walkB, bne_self_eq_false, beq_self_eq_true, Option.map_some, Option.map_none, reduceIte, decide_true, decide_false, Int.reduceLT, Int.reduceLE, Int.reduceMul, Int.reduceAdd, Int.reduceSub, h0, h1, faX2, lx, hzb])
  refine Wp.cond_false (by first | ((simp (disch := (first | (simp only [List.length_set, hl]; omega) | (simp only [List.length_set, el]; omega) | omega | rfl)) only [sL, aEval_tmp]); done) | ((simp (disch := (first | (simp only [List.length_set, hl]; omega) | (simp only [List.length_set, el]; omega) | omega | rfl)) only [sL, aEval_tmp]); rfl)) ?_
  repeat (first | (with_reducible refine Wp.st ?_; simp only [wS]) | with_reducible refine Wp.drawS (by decide +kernel) ?_ | simp (disch := (first | (simp only [List.length_set, hl]; omega) | (simp only [List.length_set, el]; omega) | omega | rfl)) only [walkA, walkB, bne_self_eq_false, beq_self_eq_true, Option.map_some, Option.map_none, reduceIte, decide_true, decide_false, Int.reduceLT, Int.reduceLE, Int.reduceMul, Int.reduceAdd, Int.reduceSub, h0, h1, d1])
  refine Wp.cond_false (by first | ((simp (disch := (first | (simp only [List.length_set, hl]; omega) | (simp only [List.length_set, el]; omega) | omega | rfl)) only [sL, aEval_tmp]); done) | ((simp (disch := (first | (simp only [List.length_set, hl]; omega) | (simp only [List.length_set, el]; omega) | omega | rfl)) only [sL, aEval_tmp]); rfl)) ?_
  repeat (first | (with_reducible refine Wp.st ?_; simp only [wS]) | with_reducible refine Wp.drawS (by decide +kernel) ?_ | simp (disch := (first | (simp only [List.length_set, hl]; omega) | (simp only [List.length_set, el]; omega) | omega | rfl)) only [walkA, walkB, bne_self_eq_false, beq_self_eq_true, Option.map_some, Option.map_none, reduceIte, decide_true, decide_false, Int.reduceLT, Int.reduceLE, Int.reduceMul, Int.reduceAdd, Int.reduceSub, h0, h1])
  refine (xLeft_am k T bv bs s h r).mono ?_
  rintro v h' ⟨rfl, rfl⟩
  have wx := r.rd.wx 11
  have r11 := r.rd.sete 11
  by_cases hcut : bs.length < s.1 + m + pad m
  · have e1 : rFixed bs m s = ([], s.1, 11) := by unfold rFixed; rw [if_neg hz, if_neg hneg, if_pos (by simpa using hcut)]
    by_cases hbig : (m : Int) > (bs.length : Int) - (s.1 : Int)
    · have d2 : decide ((m : Int) > (bs.length : Int) - (s.1 : Int)) = true := by simpa using hbig
      repeat (first | (with_reducible refine Wp.st ?_; simp only [wS]) | with_reducible refine Wp.drawS (by decide +kernel) ?_ | simp (disch := (first | (simp only [List.length_set, hl]; omega) | (simp only [List.length_set, el]; omega) | omega | rfl)) only [walkA, walkB, bne_self_eq_false, beq_self_eq_true, Option.map_some, Option.map_none, reduceIte, decide_true, decide_false, Int.reduceLT, Int.reduceLE, Int.reduceMul, Int.reduceAdd, Int.reduceSub, h0, h1, d2])
      refine Wp.cond_true (by first | ((simp (disch := (first | (simp only [List.length_set, hl]; omega) | (simp only [List.length_set, el]; omega) | omega | rfl)) only [sL, aEval_tmp]); done) | ((simp (disch := (first | (simp only [List.length_set, hl]; omega) | (simp only [List.length_set, el]; omega) | omega | rfl)) only [sL, aEval_tmp]); rfl)) ?_
      repeat (first | (with_reducible refine Wp.st ?_; simp only [wS]) | with_reducible refine Wp.drawS (by decide +kernel) ?_ | simp (disch := (first | (simp only [List.length_set, hl]; omega) | (simp only [List.length_set, el]; omega) | omega | rfl)) only [walkA, walkB, bne_self_eq_false, beq_self_eq_true, Option.map_some, Option.map_none, reduceIte, decide_true, decide_false, Int.reduceLT, Int.reduceLE, Int.reduceMul, Int.reduceAdd, Int.reduceSub, h0, h1, faX2, wx])
      simp (disch := (first | (simp only [List.length_set, hl]; omega) | (simp only [List.length_set, el]; omega) | omega | rfl)) only [aRes_one Try.results65, sL]
      rw [e1]
      exact ⟨OutB.nil, r.next r11 (Same.set1 _ _ _) r.pos, Same.set1 _ _ _⟩
    · have d2 : decide ((m : Int) > (bs.length : Int) - (s.1 : Int)) = false := by simpa using hbig
      repeat (first | (with_reducible refine Wp.st ?_; simp only [wS]) | with_reducible refine Wp.drawS (by decide +kernel) ?_ | simp (disch := (first | (simp only [List.length_set, hl]; omega) | (simp only [List.length_set, el]; omega) | omega | rfl)) only [walkA, walkB, bne_self_eq_false, beq_self_eq_true, Option.map_some, Option.map_none, reduceIte, decide_true, decide_false, Int.reduceLT, Int.reduceLE, Int.reduceMul, Int.reduceAdd, Int.reduceSub, h0, h1, d2, bin_quo, a0, a3])
      refine (xLeft_am k T bv bs s h' r).mono ?_
      rintro v h' ⟨rfl, rfl⟩
      have d3 : decide (((m + pad m : Nat) : Int) > (bs.length : Int) - (s.1 : Int)) = true := by simp; omega
      repeat (first | (with_reducible refine Wp.st ?_; simp only [wS]) | with_reducible refine Wp.drawS (by decide +kernel) ?_ | simp (disch := (first | (simp only [List.length_set, hl]; omega) | (simp only [List.length_set, el]; omega) | omega | rfl)) only [walkA, walkB, bne_self_eq_false, beq_self_eq_true, Option.map_some, Option.map_none, reduceIte, decide_true, decide_false, Int.reduceLT, Int.reduceLE, Int.reduceMul, Int.reduceAdd, Int.reduceSub, h0, h1, d2, a0, a3, d3])
      refine Wp.cond_true (by first | ((simp (disch := (first | (simp only [List.length_set, hl]; omega) | (simp only [List.length_set, el]; omega) | omega | rfl)) only [sL, aEval_tmp]); done) | ((simp (disch := (first | (simp only [List.length_set, hl]; omega) | (simp only [List.length_set, el]; omega) | omega | rfl)) only [sL, aEval_tmp]); rfl)) ?_
      repeat (first | (with_reducible refine Wp.st ?_; simp only [wS]) | with_reducible refine Wp.drawS (by decide +kernel) ?_ | simp (disch := (first | (simp only [List.length_set, hl]; omega) | (simp only [List.length_set, el]; omega) | omega | rfl)) only [walkA, walkB, bne_self_eq_false, beq_self_eq_true, Option.map_some, Option.map_none, reduceIte, decide_true, decide_false, Int.reduceLT, Int.reduceLE, Int.reduceMul, Int.reduceAdd, Int.reduceSub, h0, h1, faX2, wx])
      simp (disch := (first | (simp only [List.length_set, hl]; omega) | (simp only [List.length_set, el]; omega) | omega | rfl)) only [aRes_one Try.results65, sL]
      rw [e1]
      exact ⟨OutB.nil, r.next r11 (Same.set1 _ _ _) r.pos, Same.set1 _ _ _⟩
  have d2 : decide ((m : Int) > (bs.length : Int) - (s.1 : Int)) = false := by simp; omega
  have d3 : decide (((m + pad m : Nat) : Int) > (bs.length : Int) - (s.1 : Int)) = false := by simp; omega
  repeat (first | (with_reducible refine Wp.st ?_; simp only [wS]) | with_reducible refine Wp.drawS (by decide +kernel) ?_ | simp (disch := (first | (simp only [List.length_set, hl]; omega) | (simp only [List.length_set, el]; omega) | omega | rfl)) only [walkA, walkB, bne_self_eq_false, beq_self_eq_true, Option.map_some, Option.map_none, reduceIte, decide_true, decide_false, Int.reduceLT, Int.reduceLE, Int.reduceMul, Int.reduceAdd, Int.reduceSub, h0, h1, d2, bin_quo, a0, a3])
  refine (xLeft_am k T bv bs s h' r).mono ?_
  rintro v h' ⟨rfl, rfl⟩
  have lb := r.rd.b
  have lp := r.rd.p
  have a1 : (s.1 : Int) + (m : Int) = ((s.1 + m : Nat) : Int) := by omega
  have hle9 : s.1 + m ≤ (bs.map (Value.int .u8)).length := by rw [List.length_map]; omega
  have H9 := r.row.slice (P := Try.prog) Try.underlying22 i5 rfl (kl := .i64) (kh := .i64) (lo := s.1) (hi' := s.1 + m) (Nat.le_add_right _ _) hle9
  have hsl := H9.choose_spec.1
  have hx1 := H9.choose_spec.2.1
  have hof1 := H9.choose_spec.2.2
  generalize H9.choose = v1 at hsl hx1 hof1
  clear H9
  rw [Nat.add_sub_cancel_left, ← List.map_drop, ← List.map_take] at hx1
  repeat (first | (with_reducible refine Wp.st ?_; simp only [wS]) | with_reducible refine Wp.drawS (by decide +kernel) ?_ | simp (disch := (first | (simp only [List.length_set, hl]; omega) | (simp only [List.length_set, el]; omega) | omega | rfl)) only [walkA, walkB, bne_self_eq_false, beq_self_eq_true, Option.map_some, Option.map_none, reduceIte, decide_true, decide_false, Int.reduceLT, Int.reduceLE, Int.reduceMul, Int.reduceAdd, Int.reduceSub, h0, h1, d2, a0, a3, d3])
  refine Wp.cond_false (by first | ((simp (disch := (first | (simp only [List.length_set, hl]; omega) | (simp only [List.length_set, el]; omega) | omega | rfl)) only [sL, aEval_tmp]); done) | ((simp (disch := (first | (simp only [List.length_set, hl]; omega) | (simp only [List.length_set, el]; omega) | omega | rfl)) only [sL, aEval_tmp]); rfl)) ?_
  repeat (first | (with_reducible refine Wp.st ?_; simp only [wS]) | with_reducible refine Wp.drawS (by decide +kernel) ?_ | simp (disch := (first | (simp only [List.length_set, hl]; omega) | (simp only [List.length_set, el]; omega) | omega | rfl)) only [walkA, walkB, bne_self_eq_false, beq_self_eq_true, Option.map_some, Option.map_none, reduceIte, decide_true, decide_false, Int.reduceLT, Int.reduceLE, Int.reduceMul, Int.reduceAdd, Int.reduceSub, h0, h1, faX0, faX1, lb, lp, a1, WOps_slice2, hsl])
  refine Wp.loop (fun i e hh => ∃ j : Nat, j + i = pad m ∧ e.length = 88 ∧ sl e 0 = .pointer (some ⟨k, 0, none⟩) ∧ sl e 1 = .int .i64 m ∧ sl e 5 = v1 ∧ sl e 6 = .int .i64 (m + j : Nat) ∧ (((bs.drop (s.1 + m)).take (pad m)).take j).all (· == 0) = true ∧ hh = h') (pad m)
    ⟨0, by omega, by simp [hl], by (simp (disch := (first | (simp only [List.length_set, hl]; omega) | (simp only [List.length_set, el]; omega) | omega | rfl)) only [sL, h0]), by (simp (disch := (first | (simp only [List.length_set, hl]; omega) | (simp only [List.length_set, el]; omega) | omega | rfl)) only [sL, h1]), by (simp (disch := (first | (simp only [List.length_set, hl]; omega) | (simp only [List.length_set, el]; omega) | omega | rfl)) only [sL]), by (simp (disch := (first | (simp only [List.length_set, hl]; omega) | (simp only [List.length_set, el]; omega) | omega | rfl)) only [sL, Nat.add_zero]), rfl, rfl⟩ ?_
  clear h0 h1 hl env
  rintro i e hh ⟨j, hj, el, e0, e1, e5, e6, hall, rfl⟩
  have hplen : ((bs.drop (s.1 + m)).take (pad m)).length = pad m := by rw [List.length_take, List.length_drop]; omega
  by_cases hlt : j < pad m
  · have d4 : decide (((m + j : Nat) : Int) < ((m + pad m : Nat) : Int)) = true := by simp; omega
    repeat (first | (with_reducible refine Wp.st ?_; simp only [wS]) | with_reducible refine Wp.drawS (by decide +kernel) ?_ | simp (disch := (first | (simp only [List.length_set, hl]; omega) | (simp only [List.length_set, el]; omega) | omega | rfl)) only [walkA, walkB, bne_self_eq_false, beq_self_eq_true, Option.map_some, Option.map_none, reduceIte, decide_true, decide_false, Int.reduceLT, Int.reduceLE, Int.reduceMul, Int.reduceAdd, Int.reduceSub, e0, e1, e5, e6, bin_quo, a0, a3, d4])
    refine Wp.cond_true (by first | ((simp (disch := (first | (simp only [List.length_set, hl]; omega) | (simp only [List.length_set, el]; omega) | omega | rfl)) only [sL, aEval_tmp]); done) | ((simp (disch := (first | (simp only [List.length_set, hl]; omega) | (simp only [List.length_set, el]; omega) | omega | rfl)) only [sL, aEval_tmp]); rfl)) ?_
    have hpj : s.1 + m + j < bs.length := by omega
    obtain ⟨kk, off, hi1, hi2⟩ := r.row.row.index (P := Try.prog) Try.underlying22 i5 rfl (j := s.1 + m + j) (kd := .i64) (by simpa using hpj)
    rw [← aLoad_one (P := Try.prog) Try.underlying5 (by simp) (by simp), List.getElem_map] at hi2
    have a5 : (s.1 : Int) + ((m + j : Nat) : Int) = ((s.1 + m + j : Nat) : Int) := by omega
    have hg : ((bs.drop (s.1 + m)).take (pad m))[j]'(by omega) = bs[s.1 + m + j] := by rw [List.getElem_take, List.getElem_drop]
    by_cases hb0 : bs[s.1 + m + j] = 0
    · have hb : (bs[s.1 + m + j] != 0) = false := by simp [hb0]
      repeat (first | (with_reducible refine Wp.st ?_; simp only [wS]) | with_reducible refine Wp.drawS (by decide +kernel) ?_ | simp (disch := (first | (simp only [List.length_set, hl]; omega) | (simp only [List.length_set, el]; omega) | omega | rfl)) only [walkA, walkB, bne_self_eq_false, beq_self_eq_true, Option.map_some, Option.map_none, reduceIte, decide_true, decide_false, Int.reduceLT, Int.reduceLE, Int.reduceMul, Int.reduceAdd, Int.reduceSub, e0, e1, e5, e6, faX0, faX1, lb, lp, a5, hi1, hi2, hb])
      refine Wp.cond_false (by first | ((simp (disch := (first | (simp only [List.length_set, hl]; omega) | (simp only [List.length_set, el]; omega) | omega | rfl)) only [sL, aEval_tmp]); done) | ((simp (disch := (first | (simp only [List.length_set, hl]; omega) | (simp only [List.length_set, el]; omega) | omega | rfl)) only [sL, aEval_tmp]); rfl)) ?_
      repeat (first | (with_reducible refine Wp.st ?_; simp only [wS]) | with_reducible refine Wp.drawS (by decide +kernel) ?_ | simp (disch := (first | (simp only [List.length_set, hl]; omega) | (simp only [List.length_set, el]; omega) | omega | rfl)) only [walkA, walkB, bne_self_eq_false, beq_self_eq_true, Option.map_some, Option.map_none, reduceIte, decide_true, decide_false, Int.reduceLT, Int.reduceLE, Int.reduceMul, Int.reduceAdd, Int.reduceSub, e0, e1, e5, e6])
      exact ⟨i - 1, by omega, j + 1, by omega, by simp [el], by (simp (disch := (first | (simp only [List.length_set, hl]; omega) | (simp only [List.length_set, el]; omega) | omega | rfl)) only [sL, e0]), by (simp (disch := (first | (simp only [List.length_set, hl]; omega) | (simp only [List.length_set, el]; omega) | omega | rfl)) only [sL, e1]), by (simp (disch := (first | (simp only [List.length_set, hl]; omega) | (simp only [List.length_set, el]; omega) | omega | rfl)) only [sL, e5]), by (simp (disch := (first | (simp only [List.length_set, hl]; omega) | (simp only [List.length_set, el]; omega) | omega | rfl)) only [sL, Int.natCast_add]); first | rfl | (congr 1; omega), by rw [List.take_succ_eq_append_getElem (by omega), List.all_append, hall, hg]; simp [hb0], trivial⟩
    · have hb : (bs[s.1 + m + j] != 0) = true := by simpa using hb0
      have w15 := r.rd.wx 15
      have r15 := r.rd.sete 15
      repeat (first | (with_reducible refine Wp.st ?_; simp only [wS]) | with_reducible refine Wp.drawS (by decide +kernel) ?_ | simp (disch := (first | (simp only [List.length_set, hl]; omega) | (simp only [List.length_set, el]; omega) | omega | rfl)) only [walkA, walkB, bne_self_eq_false, beq_self_eq_true, Option.map_some, Option.map_none, reduceIte, decide_true, decide_false, Int.reduceLT, Int.reduceLE, Int.reduceMul, Int.reduceAdd, Int.reduceSub, e0, e1, e5, e6, faX0, faX1, lb, lp, a5, hi1, hi2, hb])
      refine Wp.cond_true (by first | ((simp (disch := (first | (simp only [List.length_set, hl]; omega) | (simp only [List.length_set, el]; omega) | omega | rfl)) only [sL, aEval_tmp]); done) | ((simp (disch := (first | (simp only [List.length_set, hl]; omega) | (simp only [List.length_set, el]; omega) | omega | rfl)) only [sL, aEval_tmp]); rfl)) ?_
      repeat (first | (with_reducible refine Wp.st ?_; simp only [wS]) | with_reducible refine Wp.drawS (by decide +kernel) ?_ | simp (disch := (first | (simp only [List.length_set, hl]; omega) | (simp only [List.length_set, el]; omega) | omega | rfl)) only [walkA, walkB, bne_self_eq_false, beq_self_eq_true, Option.map_some, Option.map_none, reduceIte, decide_true, decide_false, Int.reduceLT, Int.reduceLE, Int.reduceMul, Int.reduceAdd, Int.reduceSub, e0, e1, faX2, w15])
      simp (disch := (first | (simp only [List.length_set, hl]; omega) | (simp only [List.length_set, el]; omega) | omega | rfl)) only [aRes_one Try.results65, sL]
      have e1 : rFixed bs m s = ([], s.1, 15) := by
        unfold rFixed
        have hna : ¬ (((bs.drop (s.1 + m)).take (pad m)).all (· == 0) = true) := fun hh => hb0 (by
          have := List.all_eq_true.1 hh _ (List.getElem_mem (n := j) (by omega))
          rw [hg] at this; simpa using this)
        rw [if_neg hz, if_neg hneg, if_neg (by simpa using hcut), Int.toNat_natCast, if_neg hna]
      rw [e1]
      exact ⟨OutB.nil, r.next r15 (Same.set1 _ _ _) r.pos, Same.set1 _ _ _⟩
  · have d4 : decide (((m + j : Nat) : Int) < ((m + pad m : Nat) : Int)) = false := by simp; omega
    have hjl : j = pad m := by omega
    subst hjl
    rw [List.take_take, Nat.min_self] at hall
    repeat (first | (with_reducible refine Wp.st ?_; simp only [wS]) | with_reducible refine Wp.drawS (by decide +kernel) ?_ | simp (disch := (first | (simp only [List.length_set, hl]; omega) | (simp only [List.length_set, el]; omega) | omega | rfl)) only [walkA, walkB, bne_self_eq_false, beq_self_eq_true, Option.map_some, Option.map_none, reduceIte, decide_true, decide_false, Int.reduceLT, Int.reduceLE, Int.reduceMul, Int.reduceAdd, Int.reduceSub, e0, e1, e5, e6, bin_quo, a0, a3, d4])
    refine Wp.cond_false (by first | ((simp (disch := (first | (simp only [List.length_set, hl]; omega) | (simp only [List.length_set, el]; omega) | omega | rfl)) only [sL, aEval_tmp]); done) | ((simp (disch := (first | (simp only [List.length_set, hl]; omega) | (simp only [List.length_set, el]; omega) | omega | rfl)) only [sL, aEval_tmp]); rfl)) ?_
    have a6 : (s.1 : Int) + ((m + pad m : Nat) : Int) = ((s.1 + m + pad m : Nat) : Int) := by omega
    have wp := r.rd.wp ((s.1 + m + pad m : Nat) : Int)
    have r3 := r.rd.setp (s.1 + m + pad m)
    have s3 : Same hh (hh.set k (.cells [bv, .int .i64 (s.1 + m + pad m : Nat), .int .i64 s.2] T false)) (onlyS k) := Same.set1 _ _ _
    have ro := r.next r3 s3 (by show s.1 + m + pad m ≤ bs.length; omega)
    have hx2 := hx1.same s3 (fun a n c ev hn => by
      obtain ⟨a0, n0, c0, x1, x2, x3⟩ := hof1 a n c ev hn
      intro hh; rw [x3] at hh; exact r.off a0 n0 c0 x1 x2 hh)
    generalize (hh.set k (.cells [bv, .int .i64 (s.1 + m + pad m : Nat), .int .i64 s.2] T false)) = h2 at wp r3 s3 ro hx2
    have hs0 : Same h2 (h2.push (.cells [] 5 false)) noS := Same.push _ _ _
    have hb2 := hx2.row.same hs0 (fun _ _ _ _ _ x => x)
    have hbuf : Buf (h2.push (.cells [] 5 false)) 5 (.slice (some ⟨h2.next, 0, none⟩) 0 0) [] := .inr (.inl ⟨rfl, h2.next, [], 5, false, rfl, Heap.get_push_new⟩)
    obtain ⟨v2, hh2, ha2, hbv, hs1, hf1⟩ := Buf.append (P := Try.prog) hbuf Try.underlying22 i5 rfl rfl rfl rfl (hb2.src Try.underlying22 (by simp) rfl) rfl (ints_all _ _) (small_of (by simp; omega)) (small_of (by simp [Try.t5]; omega))
    repeat (first | (with_reducible refine Wp.st ?_; simp only [wS]) | with_reducible refine Wp.drawS (by decide +kernel) ?_ | simp (disch := (first | (simp only [List.length_set, hl]; omega) | (simp only [List.length_set, el]; omega) | omega | rfl)) only [walkA, walkB, bne_self_eq_false, beq_self_eq_true, Option.map_some, Option.map_none, reduceIte, decide_true, decide_false, Int.reduceLT, Int.reduceLE, Int.reduceMul, Int.reduceAdd, Int.reduceSub, e0, e1, e5, e6, faX1, lp, bin_quo, a0, a3, a6, wp, slice_none, builtin_append, ha2])
    simp (disch := (first | (simp only [List.length_set, hl]; omega) | (simp only [List.length_set, el]; omega) | omega | rfl)) only [aRes_one Try.results65, sL]
    have e1 : rFixed bs m s = ((bs.drop s.1).take m, s.1 + m + pad m, 0) := by
      unfold rFixed
      rw [if_neg hz, if_neg hneg, if_neg (by simpa using hcut), Int.toNat_natCast, if_pos hall]
    have hfr : ∀ j, bufBlk (.slice (some ⟨h2.next, 0, none⟩) 0 0) j → h2.next ≤ j := by
      rintro j ⟨o, m, d, hh⟩
      injection hh with hh; injection hh with hh; injection hh with hh
      omega
    have s4 : Same h2 hh2 noS := hs0.trans hs1 (fun _ x => x) (fun b hb x => absurd (hfr b x) (by omega))
    rw [e1, ← hz']
    refine ⟨⟨by simpa using hbv, fun b x => Nat.le_trans s3.1 ((hf1 b x).elim (hfr b) (fun y => Nat.le_trans (by simp) y))⟩, ro.same s4 (fun x => x) (fun _ _ _ _ _ x => x), s3.then s4.none⟩
theorem xBytes_am (most : Int) (k : Nat) (T : TypeId) (bv : Value) (bs : List Int) (s : Nat × Int) (h : Heap) (r : RdOK h k T bv bs s) (hm1 : -9223372036854775808 ≤ most) (hm2 : most ≤ 9223372036854775807) :
    Cl Try.prog 33 [.pointer (some ⟨k, 0, none⟩), .int .i64 most] h fun v h' => OutB h h' v (rBytes bs most s).1 ∧ RdOK h' k T bv bs (rBytes bs most s).2 ∧ Same h h' (onlyS k) := by
  refine Cl.enter Try.func33 rfl 40 Try.ntmps33 (by simp) ?_
  intro env hl ha
  have h0 : sl env 0 = .pointer (some ⟨k, 0, none⟩) := ha 0 (by simp)
  have h1 : sl env 1 = .int .i64 most := ha 1 (by simp)
  clear ha
  have lp := r.rd.p
  obtain ⟨hr1, hr2⟩ := rNum_le bs r.byte s
  have w1 : IntKind.u32.wrap (rNum bs 4 s).1 = (rNum bs 4 s).1 := wrap_u32 hr1 hr2
  have w2 : IntKind.i64.wrap (rNum bs 4 s).1 = (rNum bs 4 s).1 := wrap_i64 (by omega) (by omega)
  have w3 : IntKind.i64.wrap most = most := wrap_i64 (by omega) (by omega)
  have hcv := fun x hx => conv_int (h := hx) (k' := .u32) (n := x) Try.underlying23 Try.underlying3
  have hcv2 := fun x hx => conv_int (h := hx) (k' := .u32) (n := x) Try.underlying23 Try.underlying2
  have hcv3 := fun x hx => conv_int (h := hx) (k' := .i64) (n := x) Try.underlying3 Try.underlying2
  repeat (first | (with_reducible refine Wp.st ?_; simp only [wS]) | with_reducible refine Wp.drawS (by decide +kernel) ?_ | simp (disch := (first | (simp only [List.length_set, hl]; omega) | (simp only [List.length_set, el]; omega) | omega | rfl)) only [walkA, walkB, bne_self_eq_false, beq_self_eq_true, Option.map_some, Option.map_none, reduceIte, decide_true, decide_false, Int.reduceLT, Int.reduceLE, Int.reduceMul, Int.reduceAdd, Int.reduceSub, h0, h1, faX1, lp])
  refine (xU32_am k T bv bs s h r).mono ?_
  rintro v h1' ⟨rfl, r1, s1⟩
  have lx := r1.rd.x
  by_cases hz : (rNum bs 4 s).2.2 ≠ 0
  · have hzb : ((rNum bs 4 s).2.2 != 0) = true := by simpa using hz
    repeat (first | (with_reducible refine Wp.st ?_; simp only [wS]) | with_reducible refine Wp.drawS (by decide +kernel) ?_ | simp (disch := (first | (simp only [List.length_set, hl]; omega) | (simp only [List.length_set, el]; omega) | omega | rfl)) only [walkA, walkB, bne_self_eq_false, beq_self_eq_true, Option.map_some, Option.map_none, reduceIte, decide_true, decide_false, Int.reduceLT, Int.reduceLE, Int.reduceMul, Int.reduceAdd, Int.reduceSub, h0, h1, faX2, lx, hzb])
    refine Wp.cond_true (by first | ((simp (disch := (first | (simp only [List.length_set, hl]; omega) | (simp only [List.length_set, el]; omega) | omega | rfl)) only [sL, aEval_tmp]); done) | ((simp (disch := (first | (simp only [List.length_set, hl]; omega) | (simp only [List.length_set, el]; omega) | omega | rfl)) only [sL, aEval_tmp]); rfl)) ?_
    repeat (first | (with_reducible refine Wp.st ?_; simp only [wS]) | with_reducible refine Wp.drawS (by decide +kernel) ?_ | simp (disch := (first | (simp only [List.length_set, hl]; omega) | (simp only [List.length_set, el]; omega) | omega | rfl)) only [walkA, walkB, bne_self_eq_false, beq_self_eq_true, Option.map_some, Option.map_none, reduceIte, decide_true, decide_false, Int.reduceLT, Int.reduceLE, Int.reduceMul, Int.reduceAdd, Int.reduceSub, h0, h1])
    simp (disch := (first | (simp only [List.length_set, hl]; omega) | (simp only [List.length_set, el]; omega) | omega | rfl)) only [aRes_one Try.results33, sL]
    have eb : rBytes bs most s = ([], s.1, (rNum bs 4 s).2.2) := by unfold rBytes; rw [if_pos hz]
    have ep := (rNum_err bs s hz).2
    rw [eb, ← ep]
    exact ⟨OutB.nil, r1, s1⟩
  have hz' : (rNum bs 4 s).2.2 = 0 := by omega
  have hzb : ((rNum bs 4 s).2.2 != 0) = false := by simp [hz']
  repeat (first | (with_reducible refine Wp.st ?_; simp only [wS]) | with_reducible refine Wp.drawS (by decide +kernel) ?_ | simp (disch := (first | (simp only [List.length_set, hl]; omega) | (simp only [List.length_set, el]; omega) | omega | rfl)) only [walkA, walkB, bne_self_eq_false, beq_self_eq_true, Option.map_some, Option.map_none, reduceIte, decide_true, decide_false, Int.reduceLT, Int.reduceLE, Int.reduceMul, Int.reduceAdd, Int.reduceSub, h0, h1, faX2, lx, hzb])
  refine Wp.cond_false (by first | ((simp (disch := (first | (simp only [List.length_set, hl]; omega) | (simp only [List.length_set, el]; omega) | omega | rfl)) only [sL, aEval_tmp]); done) | ((simp (disch := (first | (simp only [List.length_set, hl]; omega) | (simp only [List.length_set, el]; omega) | omega | rfl)) only [sL, aEval_tmp]); rfl)) ?_
  by_cases hgt : (rNum bs 4 s).1 > most
  · have d1 : decide ((rNum bs 4 s).1 > most) = true := by simpa using hgt
    repeat (first | (with_reducible refine Wp.st ?_; simp only [wS]) | with_reducible refine Wp.drawS (by decide +kernel) ?_ | simp (disch := (first | (simp only [List.length_set, hl]; omega) | (simp only [List.length_set, el]; omega) | omega | rfl)) only [walkA, walkB, bne_self_eq_false, beq_self_eq_true, Option.map_some, Option.map_none, reduceIte, decide_true, decide_false, Int.reduceLT, Int.reduceLE, Int.reduceMul, Int.reduceAdd, Int.reduceSub, h0, h1, hcv, hcv2, hcv3, w1, w2, w3, d1])
    refine Wp.cond_true (by first | ((simp (disch := (first | (simp only [List.length_set, hl]; omega) | (simp only [List.length_set, el]; omega) | omega | rfl)) only [sL, aEval_tmp]); done) | ((simp (disch := (first | (simp only [List.length_set, hl]; omega) | (simp only [List.length_set, el]; omega) | omega | rfl)) only [sL, aEval_tmp]); rfl)) ?_
    repeat (first | (with_reducible refine Wp.st ?_; simp only [wS]) | with_reducible refine Wp.drawS (by decide +kernel) ?_ | simp (disch := (first | (simp only [List.length_set, hl]; omega) | (simp only [List.length_set, el]; omega) | omega | rfl)) only [walkA, walkB, bne_self_eq_false, beq_self_eq_true, Option.map_some, Option.map_none, reduceIte, decide_true, decide_false, Int.reduceLT, Int.reduceLE, Int.reduceMul, Int.reduceAdd, Int.reduceSub, h0, h1])
    refine (xFail_am s.1 5 k T bv _ h1' r1.rd).mono ?_
    rintro v h2 ⟨rfl, r2, s2⟩
    repeat (first | (with_reducible refine Wp.st ?_; simp only [wS]) | with_reducible refine Wp.drawS (by decide +kernel) ?_ | simp (disch := (first | (simp only [List.length_set, hl]; omega) | (simp only [List.length_set, el]; omega) | omega | rfl)) only [walkA, walkB, bne_self_eq_false, beq_self_eq_true, Option.map_some, Option.map_none, reduceIte, decide_true, decide_false, Int.reduceLT, Int.reduceLE, Int.reduceMul, Int.reduceAdd, Int.reduceSub, h0, h1])
    simp (disch := (first | (simp only [List.length_set, hl]; omega) | (simp only [List.length_set, el]; omega) | omega | rfl)) only [aRes_one Try.results33, sL]
    have eb : rBytes bs most s = ([], s.1, 5) := by unfold rBytes; rw [if_neg hz, if_pos hgt]
    rw [eb]
    exact ⟨OutB.nil, r.next r2 (s1.then s2) r.pos, s1.then s2⟩
  have d1 : decide ((rNum bs 4 s).1 > most) = false := by simpa using hgt
  repeat (first | (with_reducible refine Wp.st ?_; simp only [wS]) | with_reducible refine Wp.drawS (by decide +kernel) ?_ | simp (disch := (first | (simp only [List.length_set, hl]; omega) | (simp only [List.length_set, el]; omega) | omega | rfl)) only [walkA, walkB, bne_self_eq_false, beq_self_eq_true, Option.map_some, Option.map_none, reduceIte, decide_true, decide_false, Int.reduceLT, Int.reduceLE, Int.reduceMul, Int.reduceAdd, Int.reduceSub, h0, h1, hcv, hcv2, hcv3, w1, w2, w3, d1])
  refine Wp.cond_false (by first | ((simp (disch := (first | (simp only [List.length_set, hl]; omega) | (simp only [List.length_set, el]; omega) | omega | rfl)) only [sL, aEval_tmp]); done) | ((simp (disch := (first | (simp only [List.length_set, hl]; omega) | (simp only [List.length_set, el]; omega) | omega | rfl)) only [sL, aEval_tmp]); rfl)) ?_
  repeat (first | (with_reducible refine Wp.st ?_; simp only [wS]) | with_reducible refine Wp.drawS (by decide +kernel) ?_ | simp (disch := (first | (simp only [List.length_set, hl]; omega) | (simp only [List.length_set, el]; omega) | omega | rfl)) only [walkA, walkB, bne_self_eq_false, beq_self_eq_true, Option.map_some, Option.map_none, reduceIte, decide_true, decide_false, Int.reduceLT, Int.reduceLE, Int.reduceMul, Int.reduceAdd, Int.reduceSub, h0, h1, hcv, hcv2, hcv3, w1, w2])
  refine (xFixed_am (rNum bs 4 s).1 (by omega) (by omega) k T bv bs _ h1' r1).mono ?_
  rintro out h3 ⟨ob, r3, s3⟩
  have lx3 := r3.rd.x
  by_cases hz3 : (rFixed bs (rNum bs 4 s).1 (rNum bs 4 s).2).2.2 = 0
  · have hzb3 : ((rFixed bs (rNum bs 4 s).1 (rNum bs 4 s).2).2.2 != 0) = false := by simp [hz3]
    repeat (first | (with_reducible refine Wp.st ?_; simp only [wS]) | with_reducible refine Wp.drawS (by decide +kernel) ?_ | simp (disch := (first | (simp only [List.length_set, hl]; omega) | (simp only [List.length_set, el]; omega) | omega | rfl)) only [walkA, walkB, bne_self_eq_false, beq_self_eq_true, Option.map_some, Option.map_none, reduceIte, decide_true, decide_false, Int.reduceLT, Int.reduceLE, Int.reduceMul, Int.reduceAdd, Int.reduceSub, h0, h1, faX2, lx3, hzb3])
    refine Wp.cond_false (by first | ((simp (disch := (first | (simp only [List.length_set, hl]; omega) | (simp only [List.length_set, el]; omega) | omega | rfl)) only [sL, aEval_tmp]); done) | ((simp (disch := (first | (simp only [List.length_set, hl]; omega) | (simp only [List.length_set, el]; omega) | omega | rfl)) only [sL, aEval_tmp]); rfl)) ?_
    repeat (first | (with_reducible refine Wp.st ?_; simp only [wS]) | with_reducible refine Wp.drawS (by decide +kernel) ?_ | simp (disch := (first | (simp only [List.length_set, hl]; omega) | (simp only [List.length_set, el]; omega) | omega | rfl)) only [walkA, walkB, bne_self_eq_false, beq_self_eq_true, Option.map_some, Option.map_none, reduceIte, decide_true, decide_false, Int.reduceLT, Int.reduceLE, Int.reduceMul, Int.reduceAdd, Int.reduceSub, h0, h1])
    simp (disch := (first | (simp only [List.length_set, hl]; omega) | (simp only [List.length_set, el]; omega) | omega | rfl)) only [aRes_one Try.results33, sL]
    have eb : rBytes bs most s = rFixed bs (rNum bs 4 s).1 (rNum bs 4 s).2 := by unfold rBytes; rw [if_neg hz, if_neg hgt, if_neg (by simp [hz3])]
    rw [eb]
    exact ⟨ob.back s1, r3, s1.then s3⟩
  · have hzb3 : ((rFixed bs (rNum bs 4 s).1 (rNum bs 4 s).2).2.2 != 0) = true := by simpa using hz3
    have wp := r3.rd.wp s.1
    have r4 := r3.rd.setp s.1
    repeat (first | (with_reducible refine Wp.st ?_; simp only [wS]) | with_reducible refine Wp.drawS (by decide +kernel) ?_ | simp (disch := (first | (simp only [List.length_set, hl]; omega) | (simp only [List.length_set, el]; omega) | omega | rfl)) only [walkA, walkB, bne_self_eq_false, beq_self_eq_true, Option.map_some, Option.map_none, reduceIte, decide_true, decide_false, Int.reduceLT, Int.reduceLE, Int.reduceMul, Int.reduceAdd, Int.reduceSub, h0, h1, faX2, lx3, hzb3])
    refine Wp.cond_true (by first | ((simp (disch := (first | (simp only [List.length_set, hl]; omega) | (simp only [List.length_set, el]; omega) | omega | rfl)) only [sL, aEval_tmp]); done) | ((simp (disch := (first | (simp only [List.length_set, hl]; omega) | (simp only [List.length_set, el]; omega) | omega | rfl)) only [sL, aEval_tmp]); rfl)) ?_
    repeat (first | (with_reducible refine Wp.st ?_; simp only [wS]) | with_reducible refine Wp.drawS (by decide +kernel) ?_ | simp (disch := (first | (simp only [List.length_set, hl]; omega) | (simp only [List.length_set, el]; omega) | omega | rfl)) only [walkA, walkB, bne_self_eq_false, beq_self_eq_true, Option.map_some, Option.map_none, reduceIte, decide_true, decide_false, Int.reduceLT, Int.reduceLE, Int.reduceMul, Int.reduceAdd, Int.reduceSub, h0, h1, faX1, wp])
    simp (disch := (first | (simp only [List.length_set, hl]; omega) | (simp only [List.length_set, el]; omega) | omega | rfl)) only [aRes_one Try.results33, sL]
    have eb : rBytes bs most s = ([], s.1, (rFixed bs (rNum bs 4 s).1 (rNum bs 4 s).2).2.2) := by unfold rBytes; rw [if_neg hz, if_neg hgt, if_pos hz3]
    have s4 := (s1.then s3).then (Same.set1 h3 k (.cells [bv, .int .i64 s.1, .int .i64 (rFixed bs (rNum bs 4 s).1 (rNum bs 4 s).2).2.2] T false))
    rw [eb]
    exact ⟨OutB.nil, r.next r4 s4 r.pos, s4⟩
end Go.Proofs.Ytanknjpcgceccaa

namespace Go.AM
open Go
def tiles (P : Program) : Nat → List Field → Option Nat
  | o, [] => some o
  | o, f :: fs => bif Nat.beq f.offset o then tiles P (o + P.cellsOf f.type) fs else none
def argT (P : Program) : Nat → TypeId → Bool
  | 0, _ => false
  | n + 1, t => match P.underlying t with
    | some .bool | some (.int _) | some .string => true
    | some (.slice e) => Nat.blt 0 (P.cellsOf e) && argT P n e
    | some (.struct fs) => (match tiles P 0 fs.toList with
        | some e => Nat.beq e (P.cellsOf t)
        | none => false) && fs.toList.all fun f => argT P n f.type
    | some (.array k e) => Nat.beq (P.cellsOf t) (k * P.cellsOf e) && argT P n e
    | _ => false
def ARd {H : Type} (P : Program) (h : Heap) : Nat → TypeId → List Value → DataW H → Prop
  | 0, _, _, _ => False
  | n + 1, t, cs, d => match P.underlying t with
    | some .bool => ∃ b, cs = [.bool b] ∧ d = .lit (.bool b)
    | some (.int k) => ∃ x, cs = [.int k x] ∧ d = .lit (.int k x) ∧ (Lit.int k x).wf = true
    | some .string => ∃ s : ByteArray, cs = [.string s] ∧ s.size ≤ maxLen ∧ d = .lit (.string s.data.toList)
    | some (.slice e) => (cs = [.slice none 0 0] ∧ d = .nil) ∨ (∃ sp, cs = [slE] ∧ d = .slice [] sp) ∨
        ∃ k cap cells el es sp, cs = [.slice (some ⟨k, 0, none⟩) es.length cap] ∧ es ≠ [] ∧ cap ≤ maxLen ∧ es.length ≤ cap ∧ d = .slice es sp ∧ h.get k = some (.cells cells el true) ∧ cells.length = es.length * P.cellsOf e ∧
          ∀ (i : Nat) (di : DataW H), es[i]? = some di → ARd P h n e ((cells.drop (i * P.cellsOf e)).take (P.cellsOf e)) di
    | some (.struct fs) => ∃ ds, d = .agg ds ∧ cs.length = P.cellsOf t ∧ ds.length = fs.size ∧ ∀ (i : Nat) (f : Field) (di : DataW H), fs[i]? = some f → ds[i]? = some di → ARd P h n f.type ((cs.drop f.offset).take (P.cellsOf f.type)) di
    | some (.array k e) => ∃ ds, d = .agg ds ∧ cs.length = P.cellsOf t ∧ ds.length = k ∧ ∀ (i : Nat) (di : DataW H), ds[i]? = some di → ARd P h n e ((cs.drop (i * P.cellsOf e)).take (P.cellsOf e)) di
    | _ => False
theorem ARd.mono {H : Type} {P : Program} {h h' : Heap} (hs : Same h h' noS) : ∀ (n : Nat) (t : TypeId) (cs : List Value) (d : DataW H), ARd P h n t cs d → ARd P h' n t cs d
  | 0, _, _, _, r => r
  | n + 1, t, cs, d, r => by
    unfold ARd at r ⊢
    split at r
    · exact r
    · exact r
    · exact r
    · rcases r with r | r | ⟨k, cap, cells, el, es, sp, h1, h2, h3, h4, h5, h6, h7, h8⟩
      · exact .inl r
      · exact .inr (.inl r)
      · exact .inr (.inr ⟨k, cap, cells, el, es, sp, h1, h2, h3, h4, h5, hs.2 k _ h6 id, h7, fun i di hi => ARd.mono hs n _ _ _ (h8 i di hi)⟩)
    · obtain ⟨ds, h1, h2, h3, h4⟩ := r
      exact ⟨ds, h1, h2, h3, fun i f di hf hd => ARd.mono hs n _ _ _ (h4 i f di hf hd)⟩
    · obtain ⟨ds, h1, h2, h3, h4⟩ := r
      exact ⟨ds, h1, h2, h3, fun i di hd => ARd.mono hs n _ _ _ (h4 i di hd)⟩
    · exact r
theorem flat_seg {α : Type} : ∀ (css : List (List α)) (i : Nat) (c : List α), css[i]? = some c → ((css.flatten).drop ((css.take i).flatten.length)).take c.length = c
  | [], i, c, h => by simp at h
  | x :: css, 0, c, h => by simp at h; subst h; simp
  | x :: css, i + 1, c, h => by
    simp only [List.getElem?_cons_succ] at h
    have := flat_seg css i c h
    rw [List.take_succ_cons, List.flatten_cons, List.flatten_cons, List.length_append, List.drop_append, List.drop_eq_nil_of_le (by omega), List.nil_append, Nat.add_sub_cancel_left]
    exact this
theorem flat_len {α : Type} (sz : Nat) : ∀ (css : List (List α)), (∀ c ∈ css, c.length = sz) → css.flatten.length = css.length * sz
  | [], _ => by simp
  | x :: css, h => by
    rw [List.flatten_cons, List.length_append, List.length_cons, Nat.add_mul, flat_len sz css (fun c hc => h c (by simp [hc])), h x (by simp)]
    omega
theorem flat_take {α : Type} (sz : Nat) : ∀ (css : List (List α)) (L : List α), (∀ i c, css[i]? = some c → c = (L.drop (i * sz)).take sz) → css.length * sz ≤ L.length → css.flatten = L.take (css.length * sz)
  | [], L, _, _ => by simp
  | x :: css, L, h, hl => by
    rw [List.length_cons, Nat.add_mul, Nat.one_mul] at hl
    have h0 := h 0 x rfl
    rw [Nat.zero_mul, List.drop_zero] at h0
    have ih := flat_take sz css (L.drop sz) (fun i c hc => by
      have := h (i + 1) c hc
      rw [Nat.add_mul, Nat.one_mul] at this
      rw [this, List.drop_drop, Nat.add_comm]) (by rw [List.length_drop]; omega)
    rw [List.flatten_cons, ih, h0, List.length_cons, Nat.add_mul, Nat.one_mul, Nat.add_comm _ sz, List.take_add]
theorem VRs.flatten {m : Mp} : ∀ (css css' : List (List Value)), css.length = css'.length → (∀ (i : Nat) (c c' : List Value), css[i]? = some c → css'[i]? = some c' → VRs m c c') → VRs m css.flatten css'.flatten
  | [], [], _, _ => VRs.nil m
  | [], _ :: _, h, _ => by simp at h
  | _ :: _, [], h, _ => by simp at h
  | c :: css, c' :: css', h, hi => by
    rw [List.flatten_cons, List.flatten_cons]
    exact (hi 0 c c' rfl rfl).append (VRs.flatten css css' (by simpa using h) (fun i a b ha hb => hi (i + 1) a b (by simpa using ha) (by simpa using hb)))
def allRo (m : Mp) (h : Heap) : Prop := ∀ cb, ¬ Own m h cb
def Opens {H : Type} (P : Program) (w : World) (m : Mp) (h : Heap) (n : Nat) (t : TypeId) (cs : List Value) (d : DataW H) : Prop :=
  ∃ m' h' cs', Rel P m' h' w ∧ Same h h' noS ∧ m.le m' ∧ allRo m' h' ∧ VRs m' cs' cs ∧ ARd P h' n t cs' d ∧ cs'.all Value.oneCell' = true
section
variable {H : Type} {enc : TypeId × Value → H} {P : Program} {w : World} {sp : Nat → Bool} {held : Bool}
theorem seg_open {n : Nat} (ih : ∀ (t : TypeId) (cs : List Value) (d : DataW H), (∃ fuel ps, DataW.trod enc P w 0 sp held fuel t cs = some (d, ps)) → argT P n t = true → ∀ m h, Rel P m h w → allRo m h → Opens P w m h n t cs d) :
    ∀ (l : List (TypeId × List Value × DataW H)), (∀ x ∈ l, argT P n x.1 = true ∧ ∃ fuel ps, DataW.trod enc P w 0 sp held fuel x.1 x.2.1 = some (x.2.2, ps)) → ∀ m h, Rel P m h w → allRo m h →
    ∃ (m' : Mp) (h' : Heap) (css' : List (List Value)), Rel P m' h' w ∧ Same h h' noS ∧ m.le m' ∧ allRo m' h' ∧ css'.length = l.length ∧ ∀ (i : Nat) (x : TypeId × List Value × DataW H) (c' : List Value), l[i]? = some x → css'[i]? = some c' → VRs m' c' x.2.1 ∧ ARd P h' n x.1 c' x.2.2 ∧ c'.all Value.oneCell' = true
  | [], _, m, h, R, hro => ⟨m, h, [], R, Same.refl _ _, Mp.le_refl m, hro, rfl, fun i x c' hx => by simp at hx⟩
  | x :: l, hl, m, h, R, hro => by
    obtain ⟨ha, hx⟩ := hl x (by simp)
    obtain ⟨m1, h1, c1, R1, s1, le1, ro1, v1, a1, o1⟩ := ih x.1 x.2.1 x.2.2 hx ha m h R hro
    obtain ⟨m2, h2, css, R2, s2, le2, ro2, hlen, hcs⟩ := seg_open ih l (fun y hy => hl y (by simp [hy])) m1 h1 R1 ro1
    refine ⟨m2, h2, c1 :: css, R2, s1.trans s2 (fun _ x => x) (fun _ _ x => x), Mp.le_trans le1 le2, ro2, by simp [hlen], fun i y c' hy hc => ?_⟩
    cases i with
    | zero =>
      simp at hy hc
      subst hy; subst hc
      exact ⟨v1.mono le2, ARd.mono s2 _ _ _ _ a1, o1⟩
    | succ i => exact hcs i y c' (by simpa using hy) (by simpa using hc)
theorem tiles_le : ∀ (l : List Field) (o e : Nat), tiles P o l = some e → o ≤ e
  | [], o, e, h => by simp [tiles] at h; omega
  | f :: l, o, e, h => by
    unfold tiles at h
    cases hb : Nat.beq f.offset o with
    | false => rw [hb] at h; cases h
    | true =>
      rw [hb, cond_true] at h
      have := tiles_le l _ _ h
      omega
theorem tiles_flat (cs : List Value) : ∀ (l : List Field) (o e : Nat), tiles P o l = some e → (l.map fun f => (cs.drop f.offset).take (P.cellsOf f.type)).flatten = (cs.drop o).take (e - o)
  | [], o, e, h => by simp [tiles] at h; subst h; simp
  | f :: l, o, e, h => by
    unfold tiles at h
    cases hb : Nat.beq f.offset o with
    | false => rw [hb] at h; cases h
    | true =>
      rw [hb, cond_true] at h
      have ho := Nat.eq_of_beq_eq_true hb
      have hle := tiles_le l _ _ h
      rw [List.map_cons, List.flatten_cons, tiles_flat cs l _ _ h, ho, ← List.drop_drop]
      rw [show e - o = P.cellsOf f.type + (e - (o + P.cellsOf f.type)) by omega, List.take_add]
theorem tiles_off : ∀ (l : List Field) (o e : Nat), tiles P o l = some e → ∀ (i : Nat) (f : Field), l[i]? = some f → f.offset = o + ((l.take i).map fun f => P.cellsOf f.type).sum ∧ f.offset + P.cellsOf f.type ≤ e
  | [], o, e, h, i, f, hf => by simp at hf
  | g :: l, o, e, h, i, f, hf => by
    unfold tiles at h
    cases hb : Nat.beq g.offset o with
    | false => rw [hb] at h; cases h
    | true =>
      rw [hb, cond_true] at h
      have ho := Nat.eq_of_beq_eq_true hb
      cases i with
      | zero =>
        simp at hf; subst hf
        have := tiles_le l _ _ h
        simp; omega
      | succ i =>
        have := tiles_off l _ _ h i f (by simpa using hf)
        simp only [List.take_succ_cons, List.map_cons, List.sum_cons]
        omega
theorem trod_arr {t e : TypeId} {k fuel : Nat} {cs : List Value} {x : DataW H × List MemPlace} (ht : P.underlying t = some (.array k e)) (h : DataW.trod enc P w 0 sp held fuel t cs = some x) :
    ∃ (xs : List (DataW H × List MemPlace)) (n : Nat), fuel = n + 1 ∧ x = (.agg (xs.map (·.1)), xs.flatMap (·.2)) ∧ cs.length = P.cellsOf t ∧ xs.length = k ∧
      ∀ i, i < k → DataW.trod enc P w 0 sp held n e ((cs.drop (i * P.cellsOf e)).take (P.cellsOf e)) = xs[i]? := by
  cases fuel with
  | zero => simp [DataW.trod] at h
  | succ n =>
    unfold DataW.trod at h
    rw [ht] at h
    split at h <;> simp_all
    obtain ⟨hl, xs, hp, hd⟩ := h
    exact ⟨xs, hd.symm, by simpa using mapM_some_length hp, fun i hi => mapM_some_get hp i i (by simp [hi])⟩
theorem sz_at {sz i j len : Nat} (hi : i < len) (hj : j < sz) : i * sz + j < len * sz := by
  have : (i + 1) * sz ≤ len * sz := Nat.mul_le_mul_right _ hi
  rw [Nat.add_mul, Nat.one_mul] at this
  omega
theorem open_arg : ∀ (n : Nat) (t : TypeId) (cs : List Value) (d : DataW H), (∃ fuel ps, DataW.trod enc P w 0 (fun _ => true) held fuel t cs = some (d, ps)) → argT P n t = true → ∀ m h, Rel P m h w → allRo m h → Opens P w m h n t cs d
  | 0, _, _, _, _, ha, _, _, _, _ => by simp [argT] at ha
  | n + 1, t, cs, d, ⟨fuel, ps, ht⟩, ha, m, h, R, hro => by
    have stay : ∀ cs', VRs m cs' cs → ARd P h (n + 1) t cs' d → cs'.all Value.oneCell' = true → Opens P w m h (n + 1) t cs d := fun cs' a b c => ⟨m, h, cs', R, Same.refl _ _, Mp.le_refl m, hro, a, b, c⟩
    unfold argT at ha
    split at ha
    · rename_i hu
      obtain ⟨b, rfl, hx⟩ := DataW.trod_bool hu ht
      injection hx with hd _; subst hd
      exact stay [.bool b] (VRs.cons (.bool b) (VRs.nil m)) (by unfold ARd; rw [hu]; exact ⟨b, rfl, rfl⟩) rfl
    · rename_i k hu
      obtain ⟨x, rfl, hx, hw⟩ := DataW.trod_int hu ht
      injection hx with hd _; subst hd
      exact stay [.int k x] (VRs.cons (.int k x) (VRs.nil m)) (by unfold ARd; rw [hu]; exact ⟨x, rfl, rfl, hw⟩) rfl
    · rename_i hu
      obtain ⟨s, rfl, hx, hw⟩ := DataW.trod_string hu ht
      injection hx with hd _; subst hd
      exact stay [.string s] (VRs.cons (.string s) (VRs.nil m)) (by unfold ARd; rw [hu]; exact ⟨s, rfl, hw, rfl⟩) rfl
    · rename_i e hu
      simp only [Bool.and_eq_true] at ha
      have hpos : 0 < P.cellsOf e := by
        rcases Nat.lt_or_ge 0 (P.cellsOf e) with h1 | h1
        · exact h1
        · rw [blt_false (by omega)] at ha; cases ha.1
      rcases DataW.trod_slice hu ht with ⟨rfl, hx⟩ | ⟨a, len, cap, elems, rest, k, rfl, rfl, hx, _, hlc, hcm, hlen, hel, _, _⟩
      · injection hx with hd _; subst hd
        exact stay [.slice none 0 0] (VRs.cons .slNil (VRs.nil m)) (by unfold ARd; rw [hu]; exact .inl ⟨rfl, rfl⟩) rfl
      · injection hx with hd _; subst hd
        by_cases hz : len = 0
        · subst hz
          have : elems = [] := List.eq_nil_of_length_eq_zero hlen
          subst this
          exact stay [slE] (VRs.cons (.slEmp a cap) (VRs.nil m)) (by unfold ARd; rw [hu]; exact .inr (.inl ⟨_, rfl, rfl⟩)) rfl
        · have hsz := hpos
          generalize hszd : P.cellsOf e = sz at *
          -- the elements' cells
          have hcell : ∀ i, i < len → ∃ ci y, w.cells? 0 (a.add (i * sz)) sz = some ci ∧ elems[i]? = some y ∧ DataW.trod enc P w 0 (fun _ => true) held k e ci = some y := fun i hi => by
            have h1 := hel i hi
            rw [List.getElem?_eq_getElem (by omega)] at h1
            rw [Option.bind_eq_some_iff] at h1
            obtain ⟨ci, c1, c2⟩ := h1
            exact ⟨ci, _, c1, List.getElem?_eq_getElem (by omega), c2⟩
          obtain ⟨c0, y0, q1, q2, q3⟩ := hcell 0 (by omega)
          have qs := World.cells?_some q1
          have q4 := qs.2.2 0 hsz
          rw [Nat.zero_mul] at q4
          have ea : (a.add 0).add 0 = a := by simp [Addr.add]
          rw [ea, List.getElem?_eq_getElem (by omega)] at q4
          obtain ⟨c, el, fr, hb, hsp⟩ : ∃ c el fr, w.heap[a.block]? = some (.cells c el fr) ∧ a.spot = none := by
            unfold World.cell? at q4
            split at q4
            · rename_i c el fr hb
              refine ⟨c, el, fr, hb, ?_⟩
              cases hs : a.spot with
              | none => rfl
              | some z => rw [hs] at q4; simp at q4
            · cases q4
          obtain ⟨ab, ao, as⟩ := a
          simp only at hsp hb
          subst hsp
          have addn : ∀ x, (⟨ab, ao, none⟩ : Addr).add x = ⟨ab, ao + x, none⟩ := fun x => by unfold Addr.add; split <;> simp_all
          have rdc : ∀ o, w.cell? ⟨ab, o, none⟩ = c[o]? := fun o => cell_at hb
          have at_ : ∀ i, i < len → ∀ ci, w.cells? 0 ((⟨ab, ao, none⟩ : Addr).add (i * sz)) sz = some ci → ci.length = sz ∧ ∀ j, j < sz → c[ao + i * sz + j]? = ci[j]? := fun i hi ci hc => by
            obtain ⟨_, h1, h2⟩ := World.cells?_some hc
            refine ⟨h1, fun j hj => ?_⟩
            have := h2 j hj
            rw [addn, show (⟨ab, ao + i * sz, none⟩ : Addr).add j = ⟨ab, ao + i * sz + j, none⟩ by unfold Addr.add; split <;> simp_all, rdc] at this
            exact this
          -- all of them, as a list
          let css : List (List Value) := (List.range len).map fun i => ((w.cells? 0 ((⟨ab, ao, none⟩ : Addr).add (i * sz)) sz).getD [])
          have hcss : ∀ i, i < len → ∃ ci y, css[i]? = some ci ∧ w.cells? 0 ((⟨ab, ao, none⟩ : Addr).add (i * sz)) sz = some ci ∧ elems[i]? = some y ∧ DataW.trod enc P w 0 (fun _ => true) held k e ci = some y := fun i hi => by
            obtain ⟨ci, y, h1, h2, h3⟩ := hcell i hi
            refine ⟨ci, y, ?_, h1, h2, h3⟩
            simp only [css, List.getElem?_map, List.getElem?_range hi, Option.map_some, h1, Option.getD_some]
          have hlcss : css.length = len := by simp [css]
          let l : List (TypeId × List Value × DataW H) := (List.range len).map fun i => (e, css.getD i [], (elems.map (·.1)).getD i .nil)
          have hl : ∀ i, i < len → ∃ ci y, css[i]? = some ci ∧ elems[i]? = some y ∧ l[i]? = some (e, ci, y.1) ∧ DataW.trod enc P w 0 (fun _ => true) held k e ci = some y := fun i hi => by
            obtain ⟨ci, y, h1, h2, h3, h4⟩ := hcss i hi
            refine ⟨ci, y, h1, h3, ?_, h4⟩
            simp only [l, List.getElem?_map, List.getElem?_range hi, Option.map_some, List.getD_eq_getElem?_getD, h1, h3, Option.getD_some]
          obtain ⟨m1, h1, css', R1, s1, le1, ro1, hlen', hseg⟩ := seg_open (n := n) (fun t cs d h1 h2 m h R hr => open_arg n t cs d h1 h2 m h R hr) l (fun x hx => by
            obtain ⟨i, hi⟩ := List.getElem?_of_mem hx
            have hil : i < len := by
              have := (List.getElem?_eq_some_iff.1 hi).1
              simpa [l] using this
            obtain ⟨ci, y, _, _, h5, h6⟩ := hl i hil
            rw [h5] at hi; injection hi with hi; subst hi
            exact ⟨ha.2, k, y.2, h6⟩) m h R hro
          have hll : l.length = len := by simp [l]
          have each : ∀ i, i < len → ∃ ci c' y, css[i]? = some ci ∧ css'[i]? = some c' ∧ elems[i]? = some y ∧ VRs m1 c' ci ∧ ARd P h1 n e c' y.1 ∧ c'.all Value.oneCell' = true ∧ ci.length = sz := fun i hi => by
            obtain ⟨ci, y, h5, h6, h7, h8⟩ := hl i hi
            obtain ⟨ci2, y2, g1, g2, _, _⟩ := hcss i hi
            rw [h5] at g1; injection g1 with g1; subst g1
            have hc' : css'[i]? = some (css'[i]'(by omega)) := List.getElem?_eq_getElem (by omega)
            obtain ⟨a1, a2, a3⟩ := hseg i _ _ h7 hc'
            exact ⟨ci, _, y, h5, hc', h6, a1, a2, a3, (at_ i hi ci g2).1⟩
          have hl1 : ∀ x ∈ css', x.length = sz := fun x hx => by
            obtain ⟨i, hi⟩ := List.getElem?_of_mem hx
            obtain ⟨ci, c', y, b1, b2, b3, b4, b5, b6, b7⟩ := each i (by have := (List.getElem?_eq_some_iff.1 hi).1; omega)
            rw [b2] at hi; injection hi with hi; subst hi
            rw [b4.1, b7]
          have hl2 : css'.flatten.length = len * sz := by rw [flat_len sz css' hl1, hlen', hll]
          -- the block's cells from there
          have hLast : ao + len * sz ≤ c.size := by
            obtain ⟨ci, y, g1, g2, _, _⟩ := hcss (len - 1) (by omega)
            obtain ⟨b1, b2⟩ := at_ (len - 1) (by omega) ci g2
            have b3 := b2 (sz - 1) (by omega)
            rw [List.getElem?_eq_getElem (by omega)] at b3
            have b4 := (Array.getElem?_eq_some_iff.1 b3).1
            have : (len - 1) * sz + sz = len * sz := by
              conv => rhs; rw [show len = (len - 1) + 1 by omega, Nat.add_mul, Nat.one_mul]
            omega
          have hflat : css.flatten = ((c.toList.drop ao)).take (len * sz) := by
            rw [← hlcss]
            refine flat_take sz css _ (fun i ci hci => ?_) (by rw [hlcss, List.length_drop, Array.length_toList]; omega)
            have hil : i < len := by have := (List.getElem?_eq_some_iff.1 hci).1; omega
            obtain ⟨ci2, y, g1, g2, _, _⟩ := hcss i hil
            rw [g1] at hci; injection hci with hci; subst hci
            obtain ⟨b1, b2⟩ := at_ i hil _ g2
            apply List.ext_getElem?
            intro j
            rw [List.getElem?_take]
            split
            · rename_i hj
              rw [List.drop_drop, List.getElem?_drop, ← b2 j hj, ← Array.getElem?_toList]
            · rw [List.getElem?_eq_none (by omega)]
          have hvr : VRs m1 css'.flatten css.flatten := VRs.flatten _ _ (by omega) (fun i x y hx hy => by
            obtain ⟨ci, c', z, b1, b2, b3, b4, _⟩ := each i (by have := (List.getElem?_eq_some_iff.1 hx).1; omega)
            rw [b2] at hx; rw [b1] at hy; injection hx with hx; injection hy with hy; subst hx; subst hy
            exact b4)
          have hone : css'.flatten.all Value.oneCell' = true := by
            rw [List.all_eq_true]
            intro x hx
            obtain ⟨r, hr, hxr⟩ := List.mem_flatten.1 hx
            obtain ⟨i, hi⟩ := List.getElem?_of_mem hr
            obtain ⟨ci, c', z, b1, b2, b3, b4, b5, b6, _⟩ := each i (by have := (List.getElem?_eq_some_iff.1 hi).1; omega)
            rw [b2] at hi; injection hi with hi; subst hi
            exact List.all_eq_true.1 b6 x hxr
          obtain ⟨R2, F2⟩ := R1.addRo (off := ao) (cs := css'.flatten) hb (ro1 ab) (by omega) (fun i v hv => by
            have hil : i < len * sz := by have := (List.getElem?_eq_some_iff.1 hv).1; omega
            obtain ⟨v', hv', hr⟩ := hvr.get hv
            rw [hflat, List.getElem?_take, if_pos hil, List.getElem?_drop, Array.getElem?_toList] at hv'
            exact ⟨v', hv', hr⟩) (fun i v hv => List.all_eq_true.1 hone v (List.mem_of_getElem? hv))
          have hcap : isOpn cap = false := by
            cases ho : isOpn cap with
            | false => rfl
            | true =>
              have := ble_iff.1 ho
              have : maxLen = 9223372036854775807 := by rfl
              omega
          refine ⟨_, _, [.slice (some ⟨h1.next, 0, none⟩) len cap], R2, s1.trans (Same.push _ _ noS) (fun _ x => x) (fun _ _ x => x), Mp.le_trans le1 F2.le, ?_, ?_, ?_, rfl⟩
          · intro cb ho
            exact ro1 cb (by
              obtain ⟨k', loc, g1, g2, g3⟩ := ho
              obtain ⟨cs2, el2, g4⟩ := g3
              rw [Heap.get_push] at g4
              by_cases hk : k' = h1.next
              · rw [if_pos hk] at g4; cases g4
              · rw [if_neg hk] at g4
                rw [Mp.upd_ne _ _ _ hk] at g1
                exact ⟨k', loc, g1, g2, cs2, el2, g4⟩)
          · refine VRs.cons ?_ (VRs.nil _)
            exact .sl h1.next 0 len cap ⟨ab, ao, c.size, eszOf P el⟩ (Mp.upd_same _ _ _) hcap
          · unfold ARd
            rw [hu]
            refine .inr (.inr ⟨h1.next, cap, css'.flatten, el, elems.map (·.1), rest.map (·.1), by rw [List.length_map, hlen], ?_, hcm, by rw [List.length_map]; omega, rfl, Heap.get_push_new, by rw [hl2, List.length_map, hlen, hszd], ?_⟩)
            · intro hnil
              have := congrArg List.length hnil
              rw [List.length_map, List.length_nil] at this
              omega
            · intro i di hdi
              have hil : i < len := by
                have := (List.getElem?_eq_some_iff.1 hdi).1
                rw [List.length_map] at this; omega
              obtain ⟨ci, c', y, b1, b2, b3, b4, b5, b6, b7⟩ := each i hil
              rw [List.getElem?_map, b3] at hdi
              injection hdi with hdi; subst hdi
              have hc'l : c'.length = sz := by rw [b4.1, b7]
              have hpre : (css'.take i).flatten.length = i * sz := by
                rw [flat_len sz _ (fun x hx => hl1 x (List.mem_of_mem_take hx)), List.length_take, Nat.min_eq_left (by omega)]
              have := flat_seg css' i c' b2
              rw [hpre, hc'l] at this
              rw [hszd, this]
              exact ARd.mono (Same.push _ _ noS) _ _ _ _ b5
    · rename_i fs hu
      simp only [Bool.and_eq_true] at ha
      obtain ⟨ha1, ha2⟩ := ha
      obtain ⟨xs, k, rfl, hx, hl, hxl, hf⟩ := DataW.trod_struct hu ht
      injection hx with hd _; subst hd
      obtain ⟨en, hti, hen⟩ : ∃ en, tiles P 0 fs.toList = some en ∧ en = P.cellsOf t := by
        split at ha1
        · rename_i en hti; exact ⟨en, hti, Nat.eq_of_beq_eq_true ha1⟩
        · cases ha1
      let css : List (List Value) := fs.toList.map fun f => (cs.drop f.offset).take (P.cellsOf f.type)
      let l : List (TypeId × List Value × DataW H) := (List.range fs.size).map fun i => ((fs.getD i default).type, css.getD i [], (xs.map (·.1)).getD i .nil)
      have hlf : fs.toList.length = fs.size := by simp
      have hlg : ∀ (i : Nat) (f : Field), fs[i]? = some f → ∃ y, xs[i]? = some y ∧ css[i]? = some ((cs.drop f.offset).take (P.cellsOf f.type)) ∧ l[i]? = some (f.type, (cs.drop f.offset).take (P.cellsOf f.type), y.1) ∧ DataW.trod enc P w 0 (fun _ => true) held k f.type ((cs.drop f.offset).take (P.cellsOf f.type)) = some y := fun i f hfi => by
        have hi : i < fs.size := (Array.getElem?_eq_some_iff.1 hfi).1
        have h1 := hf i f hfi
        have h2 : xs[i]? = some (xs[i]'(by omega)) := List.getElem?_eq_getElem (by omega)
        have h3 : css[i]? = some ((cs.drop f.offset).take (P.cellsOf f.type)) := by simp only [css, List.getElem?_map, Array.getElem?_toList, hfi, Option.map_some]
        refine ⟨_, h2, h3, ?_, by rw [h1, h2]⟩
        simp only [l, List.getElem?_map, List.getElem?_range hi, Option.map_some, List.getD_eq_getElem?_getD, h3, h2, Option.getD_some, Array.getD_eq_getD_getElem?, hfi]
      have hll : l.length = fs.size := by simp [l]
      obtain ⟨m1, h1, css', R1, s1, le1, ro1, hlen', hseg⟩ := seg_open (n := n) (fun t cs d h1 h2 m h R hr => open_arg n t cs d h1 h2 m h R hr) l (fun x hx => by
        obtain ⟨i, hi⟩ := List.getElem?_of_mem hx
        have hil : i < fs.size := by have := (List.getElem?_eq_some_iff.1 hi).1; omega
        obtain ⟨y, _, _, h5, h6⟩ := hlg i _ (Array.getElem?_eq_getElem hil)
        rw [h5] at hi; injection hi with hi; subst hi
        exact ⟨List.all_eq_true.1 ha2 _ (by simp), k, y.2, h6⟩) m h R hro
      have hlcss : css.length = fs.size := by simp [css]
      have each : ∀ (i : Nat) (f : Field), fs[i]? = some f → ∃ c' y, css[i]? = some ((cs.drop f.offset).take (P.cellsOf f.type)) ∧ css'[i]? = some c' ∧ xs[i]? = some y ∧ VRs m1 c' ((cs.drop f.offset).take (P.cellsOf f.type)) ∧ ARd P h1 n f.type c' y.1 ∧ c'.all Value.oneCell' = true ∧ c'.length = P.cellsOf f.type := fun i f hfi => by
        have hi : i < fs.size := (Array.getElem?_eq_some_iff.1 hfi).1
        obtain ⟨y, b1, b2, b3, b4⟩ := hlg i f hfi
        have hc' : css'[i]? = some (css'[i]'(by omega)) := List.getElem?_eq_getElem (by omega)
        obtain ⟨a1, a2, a3⟩ := hseg i _ _ b3 hc'
        have ho := (tiles_off fs.toList 0 en hti i f (by rw [Array.getElem?_toList]; exact hfi)).2
        refine ⟨_, y, b2, hc', b1, a1, a2, a3, ?_⟩
        rw [a1.1, List.length_take, List.length_drop, hl]; omega
      have hflat : css.flatten = cs := by
        have := tiles_flat (P := P) cs fs.toList 0 en hti
        rw [List.drop_zero, Nat.sub_zero, hen, ← hl, List.take_length] at this
        exact this
      have hvr : VRs m1 css'.flatten cs := by
        rw [← hflat]
        refine VRs.flatten _ _ (by omega) (fun i x y hx hy => ?_)
        have hi : i < fs.size := by have := (List.getElem?_eq_some_iff.1 hx).1; omega
        obtain ⟨c', z, b1, b2, b3, b4, _⟩ := each i _ (Array.getElem?_eq_getElem hi)
        rw [b2] at hx; rw [b1] at hy; injection hx with hx; injection hy with hy; subst hx; subst hy
        exact b4
      refine ⟨m1, h1, css'.flatten, R1, s1, le1, ro1, hvr, ?_, ?_⟩
      · unfold ARd
        rw [hu]
        refine ⟨xs.map (·.1), rfl, by rw [hvr.1, hl], by rw [List.length_map, hxl], fun i f di hfi hdi => ?_⟩
        obtain ⟨c', y, b1, b2, b3, b4, b5, b6, b7⟩ := each i f hfi
        rw [List.getElem?_map, b3] at hdi
        injection hdi with hdi; subst hdi
        have hi : i < fs.size := (Array.getElem?_eq_some_iff.1 hfi).1
        have ho := (tiles_off fs.toList 0 en hti i f (by rw [Array.getElem?_toList]; exact hfi)).1
        have hlens : css'.map List.length = fs.toList.map fun f => P.cellsOf f.type := by
          apply List.ext_getElem?
          intro j
          have hft : fs.toList[j]? = fs[j]? := by simp
          rw [List.getElem?_map, List.getElem?_map, hft]
          by_cases hj : j < fs.size
          · obtain ⟨c2, y2, _, g2, _, _, _, _, g7⟩ := each j _ (Array.getElem?_eq_getElem hj)
            rw [g2, Array.getElem?_eq_getElem hj, Option.map_some, Option.map_some, g7]
          · rw [List.getElem?_eq_none (by omega), Array.getElem?_eq_none (by omega)]; rfl
        have hpre : (css'.take i).flatten.length = f.offset := by
          rw [List.length_flatten, List.map_take, hlens, ← List.map_take, ho, Nat.zero_add]
        have := flat_seg css' i c' b2
        rw [hpre, b7] at this
        rw [this]
        exact b5
      · rw [List.all_eq_true]
        intro x hx
        obtain ⟨r, hr, hxr⟩ := List.mem_flatten.1 hx
        obtain ⟨i, hi⟩ := List.getElem?_of_mem hr
        obtain ⟨c', z, b1, b2, b3, b4, b5, b6, _⟩ := each i _ (Array.getElem?_eq_getElem (by have := (List.getElem?_eq_some_iff.1 hi).1; omega))
        rw [b2] at hi; injection hi with hi; subst hi
        exact List.all_eq_true.1 b6 x hxr
    · rename_i k e hu
      simp only [Bool.and_eq_true] at ha
      obtain ⟨ha1, ha2⟩ := ha
      have hsz0 := Nat.eq_of_beq_eq_true ha1
      obtain ⟨xs, q, rfl, hx, hl, hxl, hf⟩ := trod_arr hu ht
      injection hx with hd _; subst hd
      let css : List (List Value) := (List.range k).map fun i => (cs.drop (i * P.cellsOf e)).take (P.cellsOf e)
      let l : List (TypeId × List Value × DataW H) := (List.range k).map fun i => (e, (cs.drop (i * P.cellsOf e)).take (P.cellsOf e), (xs.map (·.1)).getD i .nil)
      have hlg : ∀ i, i < k → ∃ y, xs[i]? = some y ∧ css[i]? = some ((cs.drop (i * P.cellsOf e)).take (P.cellsOf e)) ∧ l[i]? = some (e, (cs.drop (i * P.cellsOf e)).take (P.cellsOf e), y.1) ∧ DataW.trod enc P w 0 (fun _ => true) held q e ((cs.drop (i * P.cellsOf e)).take (P.cellsOf e)) = some y := fun i hi => by
        have h2 : xs[i]? = some (xs[i]'(by omega)) := List.getElem?_eq_getElem (by omega)
        refine ⟨_, h2, by simp only [css, List.getElem?_map, List.getElem?_range hi, Option.map_some], ?_, by rw [hf i hi, h2]⟩
        simp only [l, List.getElem?_map, List.getElem?_range hi, Option.map_some, List.getD_eq_getElem?_getD, h2, Option.getD_some]
      have hll : l.length = k := by simp [l]
      have hlcss : css.length = k := by simp [css]
      obtain ⟨m1, h1, css', R1, s1, le1, ro1, hlen', hseg⟩ := seg_open (n := n) (fun t cs d h1 h2 m h R hr => open_arg n t cs d h1 h2 m h R hr) l (fun x hx => by
        obtain ⟨i, hi⟩ := List.getElem?_of_mem hx
        have hil : i < k := by have := (List.getElem?_eq_some_iff.1 hi).1; omega
        obtain ⟨y, _, _, h5, h6⟩ := hlg i hil
        rw [h5] at hi; injection hi with hi; subst hi
        exact ⟨ha2, q, y.2, h6⟩) m h R hro
      have each : ∀ i, i < k → ∃ c' y, css[i]? = some ((cs.drop (i * P.cellsOf e)).take (P.cellsOf e)) ∧ css'[i]? = some c' ∧ xs[i]? = some y ∧ VRs m1 c' ((cs.drop (i * P.cellsOf e)).take (P.cellsOf e)) ∧ ARd P h1 n e c' y.1 ∧ c'.all Value.oneCell' = true ∧ c'.length = P.cellsOf e := fun i hi => by
        obtain ⟨y, b1, b2, b3, b4⟩ := hlg i hi
        have hc' : css'[i]? = some (css'[i]'(by omega)) := List.getElem?_eq_getElem (by omega)
        obtain ⟨a1, a2, a3⟩ := hseg i _ _ b3 hc'
        refine ⟨_, y, b2, hc', b1, a1, a2, a3, ?_⟩
        have : (i + 1) * P.cellsOf e ≤ k * P.cellsOf e := Nat.mul_le_mul_right _ hi
        rw [Nat.add_mul, Nat.one_mul] at this
        rw [a1.1, List.length_take, List.length_drop, hl]; omega
      have hflat : css.flatten = cs := by
        have := flat_take (P.cellsOf e) css cs (fun i c hc => by
          have hi : i < k := by have := (List.getElem?_eq_some_iff.1 hc).1; omega
          obtain ⟨_, _, b1, _⟩ := each i hi
          rw [b1] at hc; injection hc with hc; exact hc.symm) (by rw [hlcss, hl]; omega)
        rw [hlcss, ← hsz0, ← hl, List.take_length] at this
        exact this
      have hvr : VRs m1 css'.flatten cs := by
        rw [← hflat]
        refine VRs.flatten _ _ (by omega) (fun i x y hx hy => ?_)
        obtain ⟨c', z, b1, b2, b3, b4, _⟩ := each i (by have := (List.getElem?_eq_some_iff.1 hx).1; omega)
        rw [b2] at hx; rw [b1] at hy; injection hx with hx; injection hy with hy; subst hx; subst hy
        exact b4
      have hl1 : ∀ x ∈ css', x.length = P.cellsOf e := fun x hx => by
        obtain ⟨i, hi⟩ := List.getElem?_of_mem hx
        obtain ⟨c', y, b1, b2, b3, b4, b5, b6, b7⟩ := each i (by have := (List.getElem?_eq_some_iff.1 hi).1; omega)
        rw [b2] at hi; injection hi with hi; subst hi
        exact b7
      refine ⟨m1, h1, css'.flatten, R1, s1, le1, ro1, hvr, ?_, ?_⟩
      · unfold ARd
        rw [hu]
        refine ⟨xs.map (·.1), rfl, by rw [hvr.1, hl], by rw [List.length_map, hxl], fun i di hdi => ?_⟩
        have hi : i < k := by have := (List.getElem?_eq_some_iff.1 hdi).1; rw [List.length_map] at this; omega
        obtain ⟨c', y, b1, b2, b3, b4, b5, b6, b7⟩ := each i hi
        rw [List.getElem?_map, b3] at hdi
        injection hdi with hdi; subst hdi
        have hpre : (css'.take i).flatten.length = i * P.cellsOf e := by
          rw [flat_len _ _ (fun x hx => hl1 x (List.mem_of_mem_take hx)), List.length_take, Nat.min_eq_left (by omega)]
        have := flat_seg css' i c' b2
        rw [hpre, b7] at this
        rw [this]
        exact b5
      · rw [List.all_eq_true]
        intro x hx
        obtain ⟨r, hr, hxr⟩ := List.mem_flatten.1 hx
        obtain ⟨i, hi⟩ := List.getElem?_of_mem hr
        obtain ⟨c', z, b1, b2, b3, b4, b5, b6, _⟩ := each i (by have := (List.getElem?_eq_some_iff.1 hi).1; omega)
        rw [b2] at hi; injection hi with hi; subst hi
        exact List.all_eq_true.1 b6 x hxr
    · cases ha
end
end Go.AM

namespace Go.AM
open Go Go.RowKit Go.ChangeShapes
section
variable {H : Type} {enc : TypeId × Value → H} {P : Program} {W W' : World}
theorem val_of_cells {m : Mp} {cs : List Value} {v : Value} (hv : VRs m cs v.cells.toList) (ho : cs.all Value.oneCell' = true) : ∃ a, VR m a v ∧ a.cells.toList = cs := by
  have one : ∀ (u : Value), u.cells = #[u] → VRs m cs u.cells.toList → ∃ a, VR m a u ∧ a.cells.toList = cs := fun u hu hr => by
    rw [hu] at hr
    match cs, hr, ho with
    | [x], hr, ho =>
      refine ⟨x, hr.2 0 x u rfl rfl, ?_⟩
      have hx : x.oneCell' = true := by simpa using ho
      cases x <;> first | rfl | (simp [Value.oneCell'] at hx)
    | [], hr, _ => simp [VRs] at hr
    | _ :: _ :: _, hr, _ => simp [VRs] at hr
  cases v with
  | agg c => exact ⟨.agg cs.toArray, VR.agg' (by simpa [Value.cells] using hv), by simp [Value.cells]⟩
  | _ => exact one _ rfl hv
theorem open_args {n : Nat} : ∀ (ts : List TypeId) (vs : List Value) (ds : List (DataW H)) (ps : List MemPlace), DataW.TrodAll enc P W 0 (fun _ => true) true ts vs ds ps → (∀ t ∈ ts, argT P n t = true) → ∀ m h, Rel P m h W → allRo m h →
    ∃ m' h' as, Rel P m' h' W ∧ Same h h' noS ∧ allRo m' h' ∧ m.le m' ∧ VRs m' as vs ∧ ds.length = ts.length ∧ as.length = ts.length ∧ ∀ (i : Nat) (t : TypeId) (a : Value) (d : DataW H), ts[i]? = some t → as[i]? = some a → ds[i]? = some d → ARd P h' n t a.cells.toList d
  | [], [], [], ps, _, _, m, h, R, hro => ⟨m, h, [], R, Same.refl _ _, hro, Mp.le_refl m, VRs.nil m, rfl, rfl, fun i t a d ht => by simp at ht⟩
  | t :: ts, v :: vs, d :: ds, ps, hp, hT, m, h, R, hro => by
    obtain ⟨p, q, ⟨fuel, h1⟩, h2, _⟩ := hp
    obtain ⟨m1, h1', cs, R1, s1, le1, ro1, v1, a1, o1⟩ := open_arg n t v.cells.toList d ⟨fuel, p, h1⟩ (hT t (by simp)) m h R hro
    obtain ⟨a, ha, hac⟩ := val_of_cells v1 o1
    obtain ⟨m2, h2', as, R2, s2, ro2, le2, v2, l2, l3, hall⟩ := open_args ts vs ds q h2 (fun t ht => hT t (by simp [ht])) m1 h1' R1 ro1
    refine ⟨m2, h2', a :: as, R2, s1.trans s2 (fun _ x => x) (fun _ _ x => x), ro2, Mp.le_trans le1 le2, VRs.cons (ha.mono le2) v2, by simp [l2], by simp [l3], fun i t' a' d' ht ha' hd => ?_⟩
    cases i with
    | zero =>
      simp at ht ha' hd
      subst ht; subst ha'; subst hd
      rw [hac]
      exact ARd.mono s2 _ _ _ _ a1
    | succ i => exact hall i t' a' d' (by simpa using ht) (by simpa using ha') (by simpa using hd)
  | [], _ :: _, _, _, h, _, _, _, _, _ => by simp [DataW.TrodAll] at h
  | [], [], _ :: _, _, h, _, _, _, _, _ => by simp [DataW.TrodAll] at h
  | _ :: _, [], _, _, h, _, _, _, _, _ => by simp [DataW.TrodAll] at h
  | _ :: _, _ :: _, [], _, h, _, _, _, _, _ => by simp [DataW.TrodAll] at h
theorem below_all (hl : laidOutB P = true) (hb : Below W.heap.size W W') : ∀ (ts : List TypeId) (vs : List Value) (ds : List (DataW H)) (ps : List MemPlace), (∀ t ∈ ts, P.readableRec t = true ∧ t < P.types.size) → DataW.TrodAll enc P W 0 (fun _ => true) true ts vs ds ps → (∀ x ∈ ps, x.block < W.heap.size) →
    DataW.TrodAll enc P W' 0 (fun b => decide (b < W.heap.size)) true ts vs ds ps
  | [], [], [], ps, _, h, _ => h
  | t :: ts, v :: vs, d :: ds, ps, hT, ⟨p, q, h1, h2, e⟩, hlt => by
    subst e
    refine ⟨p, q, Below.trod hl (hT t (by simp)).1 (hT t (by simp)).2 h1 hb (fun x hx => hlt x (by simp [hx])), below_all hl hb ts vs ds q (fun t ht => hT t (by simp [ht])) h2 (fun x hx => hlt x (by simp [hx])), rfl⟩
  | [], _ :: _, _, _, _, h, _ => by simp [DataW.TrodAll] at h
  | [], [], _ :: _, _, _, h, _ => by simp [DataW.TrodAll] at h
  | _ :: _, [], _, _, _, h, _ => by simp [DataW.TrodAll] at h
  | _ :: _, _ :: _, [], _, _, h, _ => by simp [DataW.TrodAll] at h
theorem kept_below (hb : Below W.heap.size W W') {may : MemPlace → Prop} : W.keptBut W' may := by
  refine ⟨hb.os, hb.output, fun i hi => ?_⟩
  have := hb.block i hi
  rw [this]
  cases h : W.heap[i]? with
  | none => trivial
  | some o => cases o <;> simp
theorem agg_only {t : TypeId} {c : Array Value} {r : Reach} {base : Nat} (hv : Value.okWide P W r base t (.agg c)) : (∃ fs, P.underlying t = some (.struct fs)) ∨ (∃ n e, P.underlying t = some (.array n e)) := by
  unfold Value.okWide at hv
  split at hv
  · rename_i fs hu; exact .inl ⟨fs, hu⟩
  · rename_i n e hu; exact .inr ⟨n, e, hu⟩
  · unfold Cell.okWide at hv
    split at hv <;> rename_i h1 <;> first | (cases h1) | skip
    all_goals
      unfold Cell.ok at hv
      split at hv <;> rename_i h2 <;> first | (cases h2) | exact hv.elim
theorem law_true {fn : Func} {s : ChangeSpec} {f : FuncId} {args : Array Value} {ds gs : List (DataW H)} {before : List MemPlace} {fresh handsOn : Bool} {tb : TypeId} (G : Good P) (hlaid : laidOutB P = true) (n : Nat) (hglob : P.globals.size = 0)
    {base : Nat} (hval : ∀ (j : Nat) t v, fn.params[j]? = some t → args[j]? = some v → Value.okWide P W .any base t v)
    (hW : DataW.Whole enc P fn.params.toList s.vars false W args.toList ds gs before) (hvars : s.vars = []) (hT : ∀ t ∈ fn.params.toList, argT P n t = true ∧ P.readableRec t = true ∧ t < P.types.size)
    (hres : fn.resultTypes = #[tb]) (hb : P.underlying tb = some .bool) (hs : s.fn H ds = { results := [.lit (.bool true)], args := ds })
    (hcl : ∀ (h : Heap) (as : List Value), as.length = fn.params.toList.length → (∀ (i : Nat) (t : TypeId) (a : Value) (d : DataW H), fn.params.toList[i]? = some t → as[i]? = some a → ds[i]? = some d → ARd P h n t a.cells.toList d) →
      (∀ (i : Nat) (t : TypeId) (c : Array Value), fn.params.toList[i]? = some t → as[i]? = some (.agg c) → (∃ fs, P.underlying t = some (.struct fs)) ∨ (∃ n e, P.underlying t = some (.array n e))) → Cl P f as h fun v _ => v = .bool true) :
    Calls P f args W fun e W' => ∃ v, e = .returned v ∧ s.post enc P fn false fresh handsOn false W args v W' := by
  have hW0 := hW
  obtain ⟨p, q, hA, hV, rfl, hfz, hnd⟩ := hW
  rw [hvars] at hV
  obtain ⟨rfl, rfl⟩ := trodVars_none hV
  have hlt : ∀ x ∈ p, x.block < W.heap.size := fun x hx => hW0.lt x (by simpa using hx)
  have hro0 : allRo (Mp.empty P) (Heap.empty P) := by
    rintro cb ⟨k, loc, hk, _⟩
    unfold Mp.empty at hk
    rw [if_neg (by omega)] at hk; cases hk
  obtain ⟨m, h, as, R, _, ro, _, hv, hl1, hl2, hall⟩ := open_args (n := n) fn.params.toList args.toList ds p hA (fun t ht => (hT t ht).1) _ _ (Rel.empty W (by omega)) hro0
  have hagg : ∀ (i : Nat) (t : TypeId) (c : Array Value), fn.params.toList[i]? = some t → as[i]? = some (.agg c) → (∃ fs, P.underlying t = some (.struct fs)) ∨ (∃ n e, P.underlying t = some (.array n e)) := fun i t c ht ha => by
    obtain ⟨v, hv1, hv2⟩ := hv.get ha
    cases hv2 with
    | agg _ c' _ _ => exact agg_only (hval i t (.agg c') (by simpa using ht) (by simpa using hv1))
  refine (Cl.calls G R hv (hcl h as hl2 hall hagg)).mono ?_
  rintro e w' ⟨v, h', v', m', rfl, rfl, R', hv', F⟩
  have hvt : v' = .bool true := by cases hv'; rfl
  subst hvt
  obtain ⟨b1, b2, b3, b4, b5⟩ := F.below ro
  have hbel : Below W.heap.size W w' := ⟨b1, b2, b3, b4, b5⟩
  refine ⟨_, rfl, ds, [], p ++ [], [], p, [], hW0, ?_, ?_, ?_, kept_below hbel, fun h => by cases h⟩
  · rw [List.append_nil, hs, hres]
    exact trodAll_mk1 (shut_bool hb true)
  · rw [List.append_nil, hs]
    exact below_all hlaid hbel _ _ _ _ (fun t ht => (hT t ht).2) hA hlt
  · rw [List.append_nil, hs, hvars]
    rfl
end
theorem one_of {P : Program} {a v : Value} {t : TypeId} {d : TypeDesc} (hc : a.cells.toList = [v]) (hu : P.underlying t = some d) (h1 : ∀ fs, d ≠ .struct fs) (h2 : ∀ n e, d ≠ .array n e)
    (hag : ∀ c, a = .agg c → (∃ fs, P.underlying t = some (.struct fs)) ∨ (∃ n e, P.underlying t = some (.array n e))) : a = v := by
  cases a with
  | agg c =>
    rcases hag c rfl with ⟨fs, e⟩ | ⟨n, e', e⟩
    · rw [hu] at e; injection e with e; exact absurd e (h1 fs)
    · rw [hu] at e; injection e with e; exact absurd e (h2 n e')
  | _ => simpa [Value.cells] using hc
theorem list_lift {α β : Type} (f : α → β) (p : α → Prop) : ∀ rows : List β, (∀ r ∈ rows, ∃ x, r = f x ∧ p x) → ∃ xs : List α, rows = xs.map f ∧ ∀ x ∈ xs, p x
  | [], _ => ⟨[], rfl, by simp⟩
  | r :: rows, h => by
    obtain ⟨x, rfl, hx⟩ := h r (by simp)
    obtain ⟨xs, rfl, hxs⟩ := list_lift f p rows (fun r hr => h r (by simp [hr]))
    exact ⟨x :: xs, rfl, by simpa using ⟨hx, hxs⟩⟩
theorem RowS.row {h : Heap} {v : Value} {α : Type} (g : α → Value) (xs : List α) (r : RowS h 1 v (xs.map fun x => [g x])) : Row h v (xs.map g) := by
  rcases r with ⟨rfl, he⟩ | ⟨he, k, off, c, rfl⟩ | ⟨k, off, cap, cs, el, ro, rfl, hg, h1, h2⟩
  · have : xs = [] := by simpa using he
    subst this; exact .inl ⟨rfl, rfl⟩
  · have : xs = [] := by simpa using he
    subst this; exact .inr (.inl ⟨rfl, k, off, c, rfl⟩)
  · simp only [List.length_map, Nat.one_mul] at h1 h2
    refine .inr (.inr ⟨k, off, cap, cs, el, ro, by simp, hg, by simpa using h1, ?_⟩)
    apply List.ext_getElem?
    intro i
    rw [List.getElem?_take, List.length_map]
    split
    · rename_i hi
      have := congrArg (fun l => l[0]?) (h2 i hi)
      simp only [List.getElem?_take, List.getElem?_drop, Nat.add_zero, List.getElem_map] at this
      rw [List.getElem?_drop, List.getElem?_map, List.getElem?_eq_getElem hi]
      simpa using this
    · rw [List.getElem?_eq_none (by rw [List.length_map]; omega)]
section
variable {H : Type} {P : Program} {h : Heap}
def inH (h : Heap) (v : Value) : Prop := ∀ a n c, v = .slice (some a) n c → n ≠ 0 → a.block < h.next
theorem ard_slice {n : Nat} {t e : TypeId} {cs : List Value} {d : DataW H} (hu : P.underlying t = some (.slice e)) (r : ARd P h (n + 1) t cs d) :
    ∃ v rows, cs = [v] ∧ RowS h (P.cellsOf e) v rows ∧ inH h v ∧ (∃ a n c, v = .slice a n c) ∧ ∀ r ∈ rows, r.length = P.cellsOf e ∧ ∃ di : DataW H, ARd P h n e r di := by
  unfold ARd at r
  rw [hu] at r
  rcases r with ⟨rfl, _⟩ | ⟨sp, rfl, _⟩ | ⟨k, cap, cells, el, es, sp, rfl, hne, h3, h4, h5, h6, h7, h8⟩
  · exact ⟨_, [], rfl, .inl ⟨rfl, rfl⟩, (by intro a n c hv; cases hv), ⟨_, _, _, rfl⟩, by simp⟩
  · refine ⟨_, [], rfl, .inr (.inl ⟨rfl, 0, 0, _, rfl⟩), ?_, ⟨_, _, _, rfl⟩, by simp⟩
    intro a n c hv hn
    unfold slE at hv
    injection hv with e1 e2 e3
    exact absurd e2.symm hn
  · refine ⟨_, (List.range es.length).map fun i => (cells.drop (i * P.cellsOf e)).take (P.cellsOf e), rfl, .inr (.inr ⟨k, 0, cap, cells, el, true, by simp, h6, by rw [Nat.zero_add, List.length_map, List.length_range, h7, Nat.mul_comm]; omega, fun i hi => ?_⟩), ?_, ⟨_, _, _, rfl⟩, ?_⟩
    · simp [Nat.mul_comm]
    · intro a n c hv _
      injection hv with e1; injection e1 with e1; subst e1
      exact Heap.get_lt h6
    · intro r hr
      obtain ⟨i, hi, rfl⟩ := List.mem_map.1 hr
      have hi' := List.mem_range.1 hi
      have : (i + 1) * P.cellsOf e ≤ es.length * P.cellsOf e := Nat.mul_le_mul_right _ hi'
      rw [Nat.add_mul, Nat.one_mul] at this
      exact ⟨by rw [List.length_take, List.length_drop, h7]; omega, _, h8 i _ (List.getElem?_eq_getElem hi')⟩
theorem ard_int {n : Nat} {t : TypeId} {k : IntKind} {cs : List Value} {d : DataW H} (hu : P.underlying t = some (.int k)) (r : ARd P h (n + 1) t cs d) : ∃ x, cs = [.int k x] ∧ (Lit.int k x).wf = true := by
  unfold ARd at r
  rw [hu] at r
  obtain ⟨x, a, _, b⟩ := r
  exact ⟨x, a, b⟩
theorem ard_bool {n : Nat} {t : TypeId} {cs : List Value} {d : DataW H} (hu : P.underlying t = some .bool) (r : ARd P h (n + 1) t cs d) : ∃ x, cs = [.bool x] := by
  unfold ARd at r
  rw [hu] at r
  obtain ⟨x, a, _⟩ := r
  exact ⟨x, a⟩
theorem ard_ints {n : Nat} {t e : TypeId} {k : IntKind} {cs : List Value} {d : DataW H} (hu : P.underlying t = some (.slice e)) (he : P.underlying e = some (.int k)) (hc : P.cellsOf e = 1) (r : ARd P h (n + 2) t cs d) :
    ∃ (v : Value) (xs : List Int), cs = [v] ∧ Row h v (xs.map (Value.int k)) ∧ inH h v ∧ (∃ a n c, v = .slice a n c) ∧ ∀ x ∈ xs, (Lit.int k x).wf = true := by
  obtain ⟨v, rows, h1, h2, h3, h4, h5⟩ := ard_slice hu r
  rw [hc] at h2
  obtain ⟨xs, rfl, hx⟩ := list_lift (fun x => [Value.int k x]) (fun x => (Lit.int k x).wf = true) rows (fun r hr => by
    obtain ⟨_, di, hd⟩ := h5 r hr
    exact ard_int he hd)
  exact ⟨v, xs, h1, h2.row _ _, h3, h4, hx⟩
theorem ard_bools {n : Nat} {t e : TypeId} {cs : List Value} {d : DataW H} (hu : P.underlying t = some (.slice e)) (he : P.underlying e = some .bool) (hc : P.cellsOf e = 1) (r : ARd P h (n + 2) t cs d) :
    ∃ (v : Value) (xs : List Bool), cs = [v] ∧ Row h v (xs.map Value.bool) ∧ inH h v ∧ (∃ a n c, v = .slice a n c) := by
  obtain ⟨v, rows, h1, h2, h3, h4, h5⟩ := ard_slice hu r
  rw [hc] at h2
  obtain ⟨xs, rfl, hx⟩ := list_lift (fun x => [Value.bool x]) (fun _ => True) rows (fun r hr => by
    obtain ⟨_, di, hd⟩ := h5 r hr
    obtain ⟨x, e⟩ := ard_bool he hd
    exact ⟨x, e, trivial⟩)
  exact ⟨v, xs, h1, h2.row _ _, h3, h4⟩
end
end Go.AM

namespace Go.AM
open Go Go.RowKit Go.ChangeShapes
section
variable {H : Type} {enc : TypeId × Value → H} {P : Program} {W : World} {h : Heap}
theorem trodAll_len {b : Bool} {c : Nat → Bool} {n : Nat} : ∀ (ts : List TypeId) (vs : List Value) (ds : List (DataW H)) (ps : List MemPlace), DataW.TrodAll enc P W n c b ts vs ds ps → ds.length = ts.length
  | [], [], [], _, _ => rfl
  | t :: ts, v :: vs, d :: ds, ps, hp => by
    obtain ⟨p, q, _, h2, _⟩ := hp
    simp [trodAll_len ts vs ds q h2]
  | [], _ :: _, _, _, h => by simp [DataW.TrodAll] at h
  | [], [], _ :: _, _, h => by simp [DataW.TrodAll] at h
  | _ :: _, [], _, _, h => by simp [DataW.TrodAll] at h
  | _ :: _, _ :: _, [], _, h => by simp [DataW.TrodAll] at h
theorem wf_u8 {x : Int} (h : (Lit.int .u8 x).wf = true) : 0 ≤ x ∧ x < 256 := by
  simp [Lit.wf, IntKind.min, IntKind.max, IntKind.bits, IntKind.signed] at h
  omega
theorem wf_u32' {x : Int} (h : (Lit.int .u32 x).wf = true) : 0 ≤ x ∧ x < 4294967296 := by
  simp [Lit.wf, IntKind.min, IntKind.max, IntKind.bits, IntKind.signed] at h
  omega
theorem wf_u64 {x : Int} (h : (Lit.int .u64 x).wf = true) : 0 ≤ x ∧ x < 18446744073709551616 := by
  simp [Lit.wf, IntKind.min, IntKind.max, IntKind.bits, IntKind.signed] at h
  omega
theorem wf_i64 {x : Int} (h : (Lit.int .i64 x).wf = true) : -9223372036854775808 ≤ x ∧ x ≤ 9223372036854775807 := by
  simp [Lit.wf, IntKind.min, IntKind.max, IntKind.bits, IntKind.signed] at h
  omega
theorem ard_bytes {n : Nat} {t e : TypeId} {cs : List Value} {d : DataW H} (hu : P.underlying t = some (.slice e)) (he : P.underlying e = some (.int .u8)) (hc : P.cellsOf e = 1) (r : ARd P h (n + 2) t cs d) :
    ∃ (v : Value) (xs : List Int), cs = [v] ∧ RowX h e v (xs.map (Value.int .u8)) ∧ (∃ a n c, v = .slice a n c) ∧ ∀ x ∈ xs, 0 ≤ x ∧ x < 256 := by
  obtain ⟨v, xs, h1, h2, _, h4, h5⟩ := ard_ints hu he hc r
  refine ⟨v, xs, h1, ?_, h4, fun x hx => wf_u8 (h5 x hx)⟩
  unfold ARd at r
  rw [hu] at r
  rcases r with ⟨h6, _⟩ | ⟨sp, h6, _⟩ | ⟨k, cap, cells, el, es, sp, h6, hne, h7, h8, _, h9, _⟩
  · rw [h1] at h6; injection h6 with h6; subst h6
    rcases h2 with h2 | ⟨_, _, _, _, h2⟩ | ⟨_, _, _, _, _, _, h2, _⟩
    · exact .inl h2
    · cases h2
    · injection h2 with h2; cases h2
  · rw [h1] at h6; injection h6 with h6
    rcases h2 with h2 | h2 | ⟨k, off, cap, cs', el, ro, h2, hg, h10, h11⟩
    · exact .inl h2
    · exact .inr (.inl h2)
    · refine .inr (.inl ?_)
      rw [h6] at h2
      unfold slE at h2
      injection h2 with e1 e2 e3
      exact ⟨List.eq_nil_of_length_eq_zero e2.symm, 0, 0, _, by rw [h6]; rfl⟩
  · rw [h1] at h6; injection h6 with h6
    rcases h2 with h2 | h2 | ⟨k', off, cap', cs', el', ro, h2, hg, h10, h11⟩
    · exact .inl h2
    · exact .inr (.inl h2)
    · have h2' := h2
      rw [h6] at h2
      injection h2 with e1 e2 e3
      have ho : isOpn cap = false := by
        cases hq : isOpn cap with
        | false => rfl
        | true =>
          have := ble_iff.1 hq
          have : maxLen < 1237940039285380274899124224 := by decide
          omega
      subst e3
      exact .inr (.inr ⟨k', off, cap, cs', el', ro, h2', hg, h10, h11, fun x => (by rw [ho] at x; cases x), fun _ => by rw [← e2]; exact h8⟩)
end
theorem aSlice_lo0 {P : Program} {h : Heap} {t : TypeId} {x : Value} {hi mx : Option Value} {k : IntKind} : aSlice P h t x none hi mx = aSlice P h t x (some (.int k 0)) hi mx := by
  have e : ∀ y d, aBoundO none y 0 = aBoundO (some (.int k 0)) y d := fun y d => by simp [aBoundO, aBound]
  unfold aSlice
  simp only [e _ 0]
theorem RowS.to {P : Program} {h : Heap} {t e : TypeId} {i : TypeInfo} {sz : Nat} {v : Value} {rows : List (List Value)} (r : RowS h sz v rows) (hc : ∀ a n c, v = .slice (some a) n c → n ≠ 0 → isOpn c = false ∧ n ≤ c) (hu : P.underlying t = some (.slice e)) (hi : P.info? e = some i) {kd : IntKind} {n : Nat} (hn : n ≤ rows.length) :
    ∃ v', aSlice P h t v none (some (.int kd n)) none = some v' ∧ RowS h sz v' (rows.take n) ∧ (∀ a m c, v' = .slice (some a) m c → m ≠ 0 → ∃ a0 n0 c0, v = .slice (some a0) n0 c0 ∧ n0 ≠ 0 ∧ a.block = a0.block) := by
  have hop0 : isOpn 0 = false := by decide
  -- a row of no length, of a block
  have zero : ∀ k off c, n = 0 → ∃ v', aSlice P h t (.slice (some ⟨k, off, none⟩) 0 c) none (some (.int kd n)) none = some v' ∧ RowS h sz v' (rows.take n) ∧ (∀ a m c, v' = .slice (some a) m c → m ≠ 0 → ∃ a0 n0 c0, v = .slice (some a0) n0 c0 ∧ n0 ≠ 0 ∧ a.block = a0.block) := fun k off c hz => by
    subst hz
    cases ho : isOpn c with
    | true =>
      refine ⟨.slice (some ⟨k, off, none⟩) 0 c, ?_, .inr (.inl ⟨by simp, k, off, c, rfl⟩), fun a m c hv hm => by injection hv with _ e2; exact absurd e2.symm hm⟩
      simp only [aSlice, hu, hi, ho, cond_true, aBoundO]
      rw [bound_nat (Nat.le_refl 0)]
      simp
    | false =>
      refine ⟨_, ?_, .inr (.inl ⟨by simp, k, (bif Nat.beq c 0 then off else off + 0 * i.size), c - 0, rfl⟩), fun a m c hv hm => by injection hv with _ e2; exact absurd e2.symm hm⟩
      simp only [aSlice, hu, hi, ho, cond_false, aBoundO]
      rw [bound_nat (Nat.zero_le c)]
  rcases r with ⟨rfl, rfl⟩ | ⟨rfl, k, off, c, rfl⟩ | ⟨k, off, cap, cs, el, ro, rfl, hg, h1, h2⟩
  · have : n = 0 := by simpa using hn
    subst this
    refine ⟨.slice none 0 0, ?_, .inl ⟨rfl, by simp⟩, fun a m c hv => by cases hv⟩
    simp only [aSlice, hu, hi, hop0, cond_false, aBoundO]
    rw [bound_nat (Nat.le_refl 0)]
  · exact zero k off c (by simpa using hn)
  · by_cases hz : rows.length = 0
    · rw [hz]
      have := zero k off cap (by omega)
      rwa [hz] at this
    · obtain ⟨ho, hcl⟩ := hc _ _ _ rfl hz
      by_cases hn0 : n = 0
      · subst hn0
        refine ⟨_, ?_, .inr (.inl ⟨by simp, k, (bif Nat.beq cap 0 then off else off + 0 * i.size), cap - 0, rfl⟩), fun a m c hv hm => by injection hv with _ e2; exact absurd e2.symm hm⟩
        simp only [aSlice, hu, hi, ho, cond_false, aBoundO]
        rw [bound_nat (Nat.zero_le cap)]
      · have b0 : Nat.beq cap 0 = false := by
          cases hb : Nat.beq cap 0 with
          | false => rfl
          | true => have := Nat.eq_of_beq_eq_true hb; omega
        have hlt : (rows.take n).length = n := by rw [List.length_take]; omega
        have hmul : sz * n ≤ sz * rows.length := Nat.mul_le_mul_left _ hn
        refine ⟨.slice (some ⟨k, off, none⟩) n cap, ?_, .inr (.inr ⟨k, off, cap, cs, el, ro, by rw [hlt], hg, by rw [hlt]; omega, fun j hj => ?_⟩), fun a m c hv hm => ?_⟩
        · simp only [aSlice, hu, hi, ho, cond_false, aBoundO]
          rw [bound_nat (show n ≤ cap by omega)]
          simp only [b0, cond_false, Nat.zero_mul, Nat.add_zero, Nat.sub_zero]
        · rw [hlt] at hj
          rw [List.getElem_take, h2 j (by omega)]
        · injection hv with e1 e2; injection e1 with e1; subst e1
          exact ⟨_, _, _, rfl, hz, rfl⟩
theorem ard_cap {H : Type} {P : Program} {h : Heap} {n : Nat} {t e : TypeId} {v : Value} {d : DataW H} (hu : P.underlying t = some (.slice e)) (r : ARd P h (n + 1) t [v] d) : ∀ a n c, v = .slice (some a) n c → n ≠ 0 → isOpn c = false ∧ n ≤ c := by
  unfold ARd at r
  rw [hu] at r
  intro a m c hv hm
  rcases r with ⟨h1, _⟩ | ⟨sp, h1, _⟩ | ⟨k, cap, cells, el, es, sp, h1, hne, h3, h4, _⟩
  · injection h1 with h1; rw [h1] at hv; cases hv
  · injection h1 with h1; rw [h1] at hv; unfold slE at hv; injection hv with _ e2; exact absurd e2.symm hm
  · injection h1 with h1; rw [h1] at hv
    injection hv with _ e2 e3
    subst e2; subst e3
    refine ⟨?_, h4⟩
    cases hq : isOpn cap with
    | false => rfl
    | true =>
      have := ble_iff.1 hq
      have : maxLen < 1237940039285380274899124224 := by decide
      omega
theorem WOps_slice1 {P : Program} {ops : Array Oper} {Q : List Value → Heap → Prop} {env : List Value} {h : Heap} {l : List Oper} {d : Option Tmp} {ty : TypeId} {ps : String} {af : Array Edge} {t : TypeId} {x hi : Operand} :
    WOps P ops Q (⟨d, .slice t x none (some hi) none, ty, ps, af, none⟩ :: l) env h = WV P ops Q l env h d (aSlice P h t (aEval env x) none (some (aEval env hi)) none) := (WOps_slice rfl)
end Go.AM

namespace Go.AM
open Go
def unb (P : Program) (ops : Array Oper) : List (Nat × Nat) :=
  let b := befs ops.toList []
  let l := ops.toList
  (List.range l.length).flatMap fun i => match l[i]? with
    | none => []
    | some oi => bif isReader oi.op && !(isEff P oi.op) then
        (List.range l.length).filterMap fun q => match l[q]? with
          | none => none
          | some oq => bif isEff P oq.op then (bif Nat.blt i q then (bif (b.getD q 0).testBit i then none else some (i, q)) else bif Nat.blt q i then (bif (b.getD i 0).testBit q then none else some (i, q)) else none) else none
      else []
section
variable {P : Program} {ops : Array Oper}
def okPair (P : Program) (recs : List Rec) (p : Nat × Nat) : Prop :=
  match recs[p.1]?, recs[p.2]? with
  | some r, some rq => r.w = false ∨ sameAt P r (bif Nat.blt p.1 p.2 then rq.h' else rq.h) = true
  | _, _ => True
theorem WDraw.mono {Q1 Q2 : List Rec → List Value → Heap → Prop} : ∀ (l : List Oper) (acc : List Rec) (env : List Value) (h : Heap), (∀ r e h, Q1 r e h → r.map (·.o) = acc.reverse.map (·.o) ++ l → Q2 r e h) → WDraw P ops Q1 l acc env h → WDraw P ops Q2 l acc env h
  | [], acc, env, h, hq, hw => hq _ _ _ hw (by simp)
  | o :: l, acc, env, h, hq, hw => by
    have step : ∀ (r : Rec) (e : List Value) (h' : Heap), r.o = o → WDraw P ops Q1 l (r :: acc) e h' → WDraw P ops Q2 l (r :: acc) e h' := fun r e h' hr hw => by
      refine WDraw.mono l (r :: acc) e h' (fun r' e' h'' a b => hq _ _ _ a ?_) hw
      simpa [hr] using b
    unfold WDraw at hw ⊢
    cases hg : aWanted ops o env with
    | true =>
      rw [hg, cond_true] at hw
      rw [cond_true]
      split at hw
      · exact hw.mono fun v h' hq => step _ _ _ rfl hq
      · split at hw
        · exact step _ _ _ rfl hw
        · exact hw.elim
    | false =>
      rw [hg, cond_false] at hw
      rw [cond_false]
      exact step _ _ _ rfl hw
theorem readOK_pairs (b : List Nat) (i : Nat) (r : Rec) : ∀ (l : List Rec) (q0 : Nat), (∀ q rq, l[q]? = some rq → isEff P rq.o.op = true → (i < q0 + q → (b.getD (q0 + q) 0).testBit i = true ∨ sameAt P r rq.h' = true) ∧ (q0 + q < i → (b.getD i 0).testBit (q0 + q) = true ∨ sameAt P r rq.h = true)) → readOK P b i r l q0 = true
  | [], _, _ => rfl
  | rq :: l, q0, h => by
    have h0 := h 0 rq rfl
    have ih := readOK_pairs b i r l (q0 + 1) (fun q rq' hq he => by
      have := h (q + 1) rq' (by simpa using hq) he
      rw [show q0 + 1 + q = q0 + (q + 1) by omega]
      exact this)
    unfold readOK
    rw [ih, Bool.and_true]
    cases he : isEff P rq.o.op with
    | false => rfl
    | true =>
      obtain ⟨a, c⟩ := h0 he
      rw [Nat.add_zero] at a c
      rw [cond_true]
      by_cases h1 : i < q0
      · rw [blt_true h1, cond_true]; rcases a h1 with x | x <;> rw [x] <;> simp
      · rw [blt_false (by omega), cond_false]
        by_cases h2 : q0 < i
        · rw [blt_true h2, cond_true]; rcases c h2 with x | x <;> rw [x] <;> simp
        · rw [blt_false (by omega)]; rfl
theorem readsOK_pairs (b : List Nat) (all : List Rec) : ∀ (l : List Rec) (i0 : Nat), (∀ i r, l[i]? = some r → r.w = true → isReader r.o.op = true → isEff P r.o.op = false → ∀ q rq, all[q]? = some rq → isEff P rq.o.op = true → (i0 + i < q → (b.getD q 0).testBit (i0 + i) = true ∨ sameAt P r rq.h' = true) ∧ (q < i0 + i → (b.getD (i0 + i) 0).testBit q = true ∨ sameAt P r rq.h = true)) → readsOK P b all l i0 = true
  | [], _, _ => rfl
  | r :: l, i0, h => by
    have ih := readsOK_pairs b all l (i0 + 1) (fun i r' hr hw hi he q rq hq hqe => by
      have := h (i + 1) r' (by simpa using hr) hw hi he q rq hq hqe
      rw [show i0 + 1 + i = i0 + (i + 1) by omega]
      exact this)
    unfold readsOK
    rw [ih, Bool.and_true]
    cases hc : (r.w && isReader r.o.op && !(isEff P r.o.op)) with
    | false => rfl
    | true =>
      simp only [Bool.and_eq_true, Bool.not_eq_true'] at hc
      rw [cond_true]
      refine readOK_pairs b i0 r all 0 (fun q rq hq hqe => ?_)
      have := h 0 r rfl hc.1.1 hc.1.2 hc.2 q rq hq hqe
      rw [Nat.add_zero] at this
      rw [Nat.zero_add]
      exact this
theorem mem_unb {i q : Nat} {oi oq : Oper} (hi : ops.toList[i]? = some oi) (hq : ops.toList[q]? = some oq) (hr : isReader oi.op = true) (he : isEff P oi.op = false) (hqe : isEff P oq.op = true) :
    (i < q → ((befs ops.toList []).getD q 0).testBit i = true ∨ (i, q) ∈ unb P ops) ∧ (q < i → ((befs ops.toList []).getD i 0).testBit q = true ∨ (i, q) ∈ unb P ops) := by
  have li : i < ops.toList.length := (List.getElem?_eq_some_iff.1 hi).1
  have lq : q < ops.toList.length := (List.getElem?_eq_some_iff.1 hq).1
  have key : ∀ x, (match ops.toList[q]? with
          | none => none
          | some oq => bif isEff P oq.op then (bif Nat.blt i q then (bif ((befs ops.toList []).getD q 0).testBit i then none else some (i, q)) else bif Nat.blt q i then (bif ((befs ops.toList []).getD i 0).testBit q then none else some (i, q)) else none) else none) = some x → x ∈ unb P ops := fun x hx => by
    unfold unb
    refine List.mem_flatMap.2 ⟨i, List.mem_range.2 li, ?_⟩
    simp only [hi, hr, he, Bool.not_false, Bool.and_self, cond_true]
    exact List.mem_filterMap.2 ⟨q, List.mem_range.2 lq, hx⟩
  constructor
  · intro h
    cases hb : ((befs ops.toList []).getD q 0).testBit i with
    | true => exact .inl rfl
    | false =>
      refine .inr (key _ ?_)
      simp only [hq, hqe, cond_true, blt_true h, hb, cond_false]
  · intro h
    cases hb : ((befs ops.toList []).getD i 0).testBit q with
    | true => exact .inl rfl
    | false =>
      refine .inr (key _ ?_)
      simp only [hq, hqe, cond_true, blt_true h, blt_false (show ¬ i < q by omega), hb, cond_false]
theorem Wp.drawU {id : Nat} {Q : AX → List Value → Heap → Prop} {env : List Value} {h : Heap} (U : List (Nat × Nat)) (hU : unb P ops = U)
    (hw : WDraw P ops (fun recs e h' => (∀ p ∈ U, okPair P recs p) ∧ Q .normal e h') ops.toList [] env h) : Wp P (.region id ops true) Q env h := by
  refine Wp.draw'' fun b hb => ?_
  subst hb
  refine WDraw.mono _ _ _ _ (fun recs e h' hq hr => ⟨?_, hq.2⟩) hw
  obtain ⟨hp, -⟩ := hq
  have hr : recs.map (·.o) = ops.toList := by simpa using hr
  refine readsOK_pairs _ recs recs 0 (fun i r hi hrw h1 h2 q rq hq h3 => ?_)
  have oi : ops.toList[i]? = some r.o := by rw [← hr, List.getElem?_map, hi]; rfl
  have oq : ops.toList[q]? = some rq.o := by rw [← hr, List.getElem?_map, hq]; rfl
  obtain ⟨a, b⟩ := mem_unb (P := P) oi oq h1 h2 h3
  rw [Nat.zero_add]
  constructor
  · intro h
    refine (a h).imp (fun x => x) (fun hm => ?_)
    have := hp _ (hU ▸ hm)
    simp only [okPair, hi, hq, blt_true h, _root_.cond_true, hrw] at this
    simpa using this
  · intro h
    refine (b h).imp (fun x => x) (fun hm => ?_)
    have := hp _ (hU ▸ hm)
    simp only [okPair, hi, hq, blt_false (show ¬ i < q by omega), _root_.cond_false, hrw] at this
    simpa using this
end
section
variable {P : Program} {ops : Array Oper} {Q : List Rec → List Value → Heap → Prop} {env : List Value} {h : Heap} {l : List Oper} {acc : List Rec} {d : Option Tmp} {ty : TypeId} {ps : String} {af : Array Edge} {g : Option (Nat × Bool)}
def WD1 (P : Program) (ops : Array Oper) (Q : List Rec → List Value → Heap → Prop) (o : Oper) (l : List Oper) (acc : List Rec) (env : List Value) (h : Heap) : Prop :=
  match aCallee o.op (aEval env) with
  | some (g, args) => Cl P g args h fun v h' => WDraw P ops Q l (⟨o, true, env, h, v, h'⟩ :: acc) (aPut env o.dst v) h'
  | none => DH P ops Q l acc o env h (aOp P h o.op (aEval env))
theorem WD_cons (o : Oper) : WDraw P ops Q (o :: l) acc env h = (bif aWanted ops o env then WD1 P ops Q o l acc env h else WDraw P ops Q l (⟨o, false, env, h, undef, h⟩ :: acc) (aPut env o.dst undef) h) := by
  conv => lhs; unfold WDraw
  cases aWanted ops o env with
  | false => rfl
  | true =>
    simp only [cond_true]
    unfold WD1
    cases aCallee o.op (aEval env) with
    | some x => rfl
    | none => cases aOp P h o.op (aEval env) with
      | none => rfl
      | some r => rfl
theorem WD_none {op : Op} : WDraw P ops Q (⟨d, op, ty, ps, af, none⟩ :: l) acc env h = WD1 P ops Q ⟨d, op, ty, ps, af, none⟩ l acc env h := by
  rw [WD_cons]; first | rfl | skip
def WDG (P : Program) (ops : Array Oper) (Q : List Rec → List Value → Heap → Prop) (o : Oper) (l : List Oper) (acc : List Rec) (env : List Value) (h : Heap) (want : Bool) : Value → Prop
  | .bool b => match b, want with
    | true, true => WD1 P ops Q o l acc env h
    | false, false => WD1 P ops Q o l acc env h
    | _, _ => WDraw P ops Q l (⟨o, false, env, h, undef, h⟩ :: acc) (aPut env o.dst undef) h
  | _ => WDraw P ops Q l (⟨o, false, env, h, undef, h⟩ :: acc) (aPut env o.dst undef) h
theorem WDG_tt {o : Oper} : WDG P ops Q o l acc env h true (.bool true) = WD1 P ops Q o l acc env h := (rfl)
theorem WDG_ff {o : Oper} : WDG P ops Q o l acc env h false (.bool false) = WD1 P ops Q o l acc env h := (rfl)
theorem WDG_tf {o : Oper} : WDG P ops Q o l acc env h true (.bool false) = WDraw P ops Q l (⟨o, false, env, h, undef, h⟩ :: acc) (aPut env o.dst undef) h := (rfl)
theorem WDG_ft {o : Oper} : WDG P ops Q o l acc env h false (.bool true) = WDraw P ops Q l (⟨o, false, env, h, undef, h⟩ :: acc) (aPut env o.dst undef) h := (rfl)
theorem WD_guard {op : Op} {j : Nat} {want : Bool} : WDraw P ops Q (⟨d, op, ty, ps, af, some (j, want)⟩ :: l) acc env h = WDG P ops Q ⟨d, op, ty, ps, af, some (j, want)⟩ l acc env h want (gval env (nthD ops.toList j)) := by
  have hw : aWanted ops ⟨d, op, ty, ps, af, some (j, want)⟩ env = (match gval env (nthD ops.toList j) with | .bool b => b == want | _ => false) := by
    unfold aWanted
    rw [nthD_eq]
    simp only [Array.getElem?_toList]
    cases hj : ops[j]? with
    | none => rfl
    | some oj =>
      cases hd : oj.dst with
      | none => simp only [hd]; rfl
      | some t =>
        simp only [hd, gval, sl, List.getD_eq_getElem?_getD]
        cases he : env[t]? with
        | none => rfl
        | some v => cases v <;> rfl
  rw [WD_cons, hw]
  unfold WDG
  cases gval env (nthD ops.toList j) <;> first | rfl | (rename_i b; cases b <;> cases want <;> rfl)
theorem WD1_call {f : FuncId} {as : Array Operand} {ts : Array TypeId} : WD1 P ops Q ⟨d, .call ⟨.value (.func f), as, ts⟩, ty, ps, af, g⟩ l acc env h =
    Cl P f (as.toList.map (aEval env)) h fun v h' => WDraw P ops Q l (⟨⟨d, .call ⟨.value (.func f), as, ts⟩, ty, ps, af, g⟩, true, env, h, v, h'⟩ :: acc) (aPut env d v) h' := by
  unfold WD1
  simp only [aCallee, aEval]
  simp
theorem WD1_op {op : Op} (hc : aCallee op (aEval env) = none) : WD1 P ops Q ⟨d, op, ty, ps, af, g⟩ l acc env h = DH P ops Q l acc ⟨d, op, ty, ps, af, g⟩ env h (aOp P h op (aEval env)) := by
  unfold WD1; rw [hc]
theorem WD1_move {x : Operand} : WD1 P ops Q ⟨d, .move x, ty, ps, af, g⟩ l acc env h = WDraw P ops Q l (⟨⟨d, .move x, ty, ps, af, g⟩, true, env, h, aEval env x, h⟩ :: acc) (aPut env d (aEval env x)) h := (WD1_op rfl)
theorem WD1_assign {x : Operand} : WD1 P ops Q ⟨d, .assign x, ty, ps, af, g⟩ l acc env h = WDraw P ops Q l (⟨⟨d, .assign x, ty, ps, af, g⟩, true, env, h, aEval env x, h⟩ :: acc) (aPut env d (aEval env x)) h := (WD1_op rfl)
theorem WD1_load {t : TypeId} {a : Operand} : WD1 P ops Q ⟨d, .load t a, ty, ps, af, g⟩ l acc env h = DH P ops Q l acc ⟨d, .load t a, ty, ps, af, g⟩ env h (withH h (aLoad P h t (aEval env a))) := (WD1_op rfl)
theorem WD1_convert {s t : TypeId} {a : Operand} : WD1 P ops Q ⟨d, .convert s t a, ty, ps, af, g⟩ l acc env h = DH P ops Q l acc ⟨d, .convert s t a, ty, ps, af, g⟩ env h (aConv P h s t (aEval env a)) := (WD1_op rfl)
theorem WD1_fieldAddr {t : TypeId} {x : Operand} {f : Nat} : WD1 P ops Q ⟨d, .fieldAddr t x f, ty, ps, af, g⟩ l acc env h = DH P ops Q l acc ⟨d, .fieldAddr t x f, ty, ps, af, g⟩ env h (withH h (aFieldAddr P t (aEval env x) f)) := (WD1_op rfl)
theorem WD1_field {t : TypeId} {x : Operand} {f : Nat} : WD1 P ops Q ⟨d, .field t x f, ty, ps, af, g⟩ l acc env h = DH P ops Q l acc ⟨d, .field t x f, ty, ps, af, g⟩ env h (withH h (aField P t (aEval env x) f)) := (WD1_op rfl)
theorem WD1_indexAddr {t : TypeId} {x i : Operand} : WD1 P ops Q ⟨d, .indexAddr t x i, ty, ps, af, g⟩ l acc env h = DH P ops Q l acc ⟨d, .indexAddr t x i, ty, ps, af, g⟩ env h (withH h (aIndexAddr P t (aEval env x) (aEval env i))) := (WD1_op rfl)
theorem WD1_extract {x : Operand} {i : Nat} : WD1 P ops Q ⟨d, .extract x i, ty, ps, af, g⟩ l acc env h = DH P ops Q l acc ⟨d, .extract x i, ty, ps, af, g⟩ env h (withH h (aExtract (aEval env x) i)) := (WD1_op rfl)
theorem WD1_binOp {op : BinOp} {t y : TypeId} {a b : Operand} : WD1 P ops Q ⟨d, .binOp op t a b y, ty, ps, af, g⟩ l acc env h = DH P ops Q l acc ⟨d, .binOp op t a b y, ty, ps, af, g⟩ env h (withH h (aBin P op t a b (aEval env a) (aEval env b))) := (WD1_op rfl)
theorem WD1_unOp {op : UnOp} {t : TypeId} {a : Operand} : WD1 P ops Q ⟨d, .unOp op t a, ty, ps, af, g⟩ l acc env h = DH P ops Q l acc ⟨d, .unOp op t a, ty, ps, af, g⟩ env h (withH h (aUn op (aEval env a))) := (WD1_op rfl)
theorem WD1_builtin {b : Builtin} {as : Array Operand} {ts : Array TypeId} : WD1 P ops Q ⟨d, .call ⟨.builtin b, as, ts⟩, ty, ps, af, g⟩ l acc env h = DH P ops Q l acc ⟨d, .call ⟨.builtin b, as, ts⟩, ty, ps, af, g⟩ env h (aBuiltin P h b ts.toList (as.toList.map (aEval env))) := (WD1_op rfl)
theorem WD1_slice2 {t : TypeId} {x lo hi : Operand} : WD1 P ops Q ⟨d, .slice t x (some lo) (some hi) none, ty, ps, af, g⟩ l acc env h = DH P ops Q l acc ⟨d, .slice t x (some lo) (some hi) none, ty, ps, af, g⟩ env h (withH h (aSlice P h t (aEval env x) (some (aEval env lo)) (some (aEval env hi)) none)) := (WD1_op rfl)
theorem WD1_slice1 {t : TypeId} {x hi : Operand} : WD1 P ops Q ⟨d, .slice t x none (some hi) none, ty, ps, af, g⟩ l acc env h = DH P ops Q l acc ⟨d, .slice t x none (some hi) none, ty, ps, af, g⟩ env h (withH h (aSlice P h t (aEval env x) none (some (aEval env hi)) none)) := (WD1_op rfl)
theorem WD1_nilCheck {x : Operand} : WD1 P ops Q ⟨d, .nilCheck x, ty, ps, af, g⟩ l acc env h = DNil P ops Q l acc ⟨d, .nilCheck x, ty, ps, af, g⟩ env h (aEval env x) := by
  rw [WD1_op rfl]
  simp only [aOp]
  cases aEval env x <;> first | rfl | (rename_i t; cases t <;> rfl)
def DPick (P : Program) (ops : Array Oper) (Q : List Rec → List Value → Heap → Prop) (l : List Oper) (acc : List Rec) (o : Oper) (env : List Value) (h : Heap) (a b : Value) : Value → Prop
  | .bool t => WDraw P ops Q l (⟨o, true, env, h, bif t then a else b, h⟩ :: acc) (aPut env o.dst (bif t then a else b)) h
  | _ => False
theorem DPick_bool {o : Oper} {a b : Value} {t : Bool} : DPick P ops Q l acc o env h a b (.bool t) = WDraw P ops Q l (⟨o, true, env, h, bif t then a else b, h⟩ :: acc) (aPut env o.dst (bif t then a else b)) h := (rfl)
theorem WD1_pick {c a b : Operand} : WD1 P ops Q ⟨d, .pick c a b, ty, ps, af, g⟩ l acc env h = DPick P ops Q l acc ⟨d, .pick c a b, ty, ps, af, g⟩ env h (aEval env a) (aEval env b) (aEval env c) := by
  rw [WD1_op rfl]
  simp only [aOp]
  cases aEval env c <;> rfl
end
theorem Cl.pure {P : Program} {f : FuncId} {args : List Value} {h : Heap} {X : Value} {Q : Value → Heap → Prop} (c : Cl P f args h fun v h' => v = X ∧ h' = h) (q : Q X h) : Cl P f args h Q :=
  c.mono fun v h' e => by obtain ⟨e1, e2⟩ := e; rw [e1, e2]; exact q
theorem veqB_int (k : IntKind) (n : Int) : veqB 6 (.int k n) (.int k n) = true := by simp [veqB]
theorem veqB_str (s : ByteArray) : veqB 6 (.string s) (.string s) = true := by simp [veqB]
theorem veqB_bool (s : Bool) : veqB 6 (.bool s) (.bool s) = true := by simp [veqB]
theorem veqB_sl (a : Option Addr) (n c : Nat) : veqB 6 (.slice a n c) (.slice a n c) = true := by simp [veqB]
theorem sameAt_load {P : Program} {t : TypeId} {a : Operand} {d : Option Tmp} {ty : TypeId} {ps : String} {af : Array Edge} {g : Option (Nat × Bool)} {w : Bool} {env : List Value} {h h1 h2 : Heap} {v : Value} (hl : aLoad P h t (aEval env a) = some v) (hv : veqB 6 v v = true) :
    sameAt P ⟨⟨d, .load t a, ty, ps, af, g⟩, w, env, h1, v, h2⟩ h = true := by
  simp only [sameAt, aOp, hl, withH, hv]
theorem sameAt_conv {P : Program} {s t : TypeId} {a : Operand} {d : Option Tmp} {ty : TypeId} {ps : String} {af : Array Edge} {g : Option (Nat × Bool)} {w : Bool} {env : List Value} {h h1 h2 : Heap} {v : Value} (hl : aConv P h s t (aEval env a) = some (v, h)) (hv : veqB 6 v v = true) :
    sameAt P ⟨⟨d, .convert s t a, ty, ps, af, g⟩, w, env, h1, v, h2⟩ h = true := by
  simp only [sameAt, aOp, hl, hv]
end Go.AM
