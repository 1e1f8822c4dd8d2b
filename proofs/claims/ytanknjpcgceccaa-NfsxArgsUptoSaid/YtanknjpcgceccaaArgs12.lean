/- The laws' own functions: what is told is not too much; the chapter's example. -/
import Derived.Test.YtanknjpcgceccaaArgs11

namespace Go.Proofs.Ytanknjpcgceccaa
open Go Go.AM
set_option linter.unusedSimpArgs false
set_option maxRecDepth 100000
attribute [local irreducible] WOps WV WH WSt WNil WPick WGd
section
variable {k off : Nat}
theorem faQ8 {k off : Nat} : aFieldAddr Try.prog 42 (.pointer (some ⟨k, off, none⟩)) 8 = some (.pointer (some ⟨k, off + 74, none⟩)) := by kernel_rfl
theorem faQ10 {k off : Nat} : aFieldAddr Try.prog 42 (.pointer (some ⟨k, off, none⟩)) 10 = some (.pointer (some ⟨k, off + 76, none⟩)) := by kernel_rfl
theorem faQ13 {k off : Nat} : aFieldAddr Try.prog 42 (.pointer (some ⟨k, off, none⟩)) 13 = some (.pointer (some ⟨k, off + 79, none⟩)) := by kernel_rfl
theorem faQ17 {k off : Nat} : aFieldAddr Try.prog 42 (.pointer (some ⟨k, off, none⟩)) 17 = some (.pointer (some ⟨k, off + 83, none⟩)) := by kernel_rfl
end
def z32 : Value := .int .u32 0
def z64 : Value := .int .u64 0
def zI : Value := .int .i64 0
def attrZ : List Value := [zI, zI, zI, z32, z32, z64, z64, z64, z32, z32, z32, z32, z32, z32]
def postZ : List Value := .bool false :: attrZ
def wccZ : List Value := [.bool false, z64, z32, z32, z32, z32]
def resZ : List Value := [zI] ++ postZ ++ postZ ++ wccZ ++ wccZ ++ postZ ++ postZ ++ [.bool false, strZ, z32, strZ, z32, .bool false, .slice none 0 0, zI, z64, z64, .slice none 0 0, z64, z64, z64, z64]
abbrev TRes : TypeId := 42
theorem bRes : aBuild Try.prog 42 [] = some (.agg resZ.toArray) := by kernel_rfl
theorem lenSl {P : Program} {t e : TypeId} {a : Option Addr} {n c : Nat} {h : Heap} (hu : P.underlying t = some (.slice e)) : aBuiltin P h .len [t] [.slice a n c] = some (.int .i64 n, h) := by simp [aBuiltin, AM.aLen, hu]
set_option maxHeartbeats 2000000 in
theorem few_am (a : AR) (rc : List Value) (hs ps : ByteArray) (n m : Nat) (h : Heap) (ha : ∃ x c, a.dv = .slice x a.data.length c) (md : a.Modest) (h1r : rc.all Value.oneCell' = true) (e74 : rc[74]? = some (.string hs)) (e76 : rc[76]? = some (.string ps)) (e79 : ∃ x c, rc[79]? = some (.slice x n c)) (e83 : ∃ x c, rc[83]? = some (.slice x m c))
    (b1 : hs.size ≤ 1048576) (b2 : ps.size ≤ 1048576) (b3 : n ≤ 1048576) :
    Cl Try.prog 9 [.agg a.cells.toArray, .agg rc.toArray] h fun v h' => v = .bool (decide ((a.file.size + a.to.size + a.name.size + a.toName.size + a.path.size + a.data.length : Int) < 30000) && (decide ((hs.size + ps.size + n : Int) < 30000) && decide ((m : Int) < 2000))) ∧ Same h h' noS := by
  refine Cl.enter Try.func9 rfl _ Try.ntmps9 (by simp) ?_
  intro env hl ha
  have h0 : sl env 0 = .agg a.cells.toArray := ha 0 (by simp)
  have h1 : sl env 1 = .agg rc.toArray := ha 1 (by simp)
  clear ha
  obtain ⟨m1, m2, m3, m4, m5, m6⟩ := md
  obtain ⟨dx, dc, hdv⟩ := ha
  obtain ⟨rx, rcp, e79⟩ := e79
  obtain ⟨nx, ncp, e83⟩ := e83
  have oneA : a.cells.all Value.oneCell' = true := by simp [AR.cells, SA.cells, Value.oneCell', hdv]
  have xa : aBox h 30 (.agg a.cells.toArray) = some (pt h.next 0, h.push (.cells a.cells TA false)) := by simp [aBox, aNew, Value.cells, oneA]
  have xb : aBox (h.push (.cells a.cells TA false)) 42 (.agg rc.toArray) = some (pt (h.push (.cells a.cells TA false)).next 0, (h.push (.cells a.cells TA false)).push (.cells rc TRes false)) := by simp [aBox, aNew, Value.cells, h1r]
  have sm : Same h ((h.push (.cells a.cells TA false)).push (.cells rc TRes false)) noS := (Same.push _ _ _).trans (Same.push _ _ _) (fun _ x => x) (fun _ _ x => x)
  have ga : ((h.push (.cells a.cells TA false)).push (.cells rc TRes false)).get h.next = some (.cells a.cells TA false) := Heap.get_push_old Heap.get_push_new
  have gb : ((h.push (.cells a.cells TA false)).push (.cells rc TRes false)).get (h.push (.cells a.cells TA false)).next = some (.cells rc TRes false) := Heap.get_push_new
  generalize hh2 : (h.push (.cells a.cells TA false)).push (.cells rc TRes false) = h2 at xb sm ga gb
  generalize (h.push (.cells a.cells TA false)).next = kb at xb gb
  generalize h.push (.cells a.cells TA false) = h1' at xa xb
  generalize h.next = ka at xa ga
  have la := ldAR ga
  rw [hdv] at la
  have l74 := ldCell (t := 9) gb Try.underlying9 (by simp) (by simp) e74
  have l76 := ldCell (t := 9) gb Try.underlying9 (by simp) (by simp) e76
  have l79 := ldCell (t := 22) gb Try.underlying22 (by simp) (by simp) e79
  have l83 := ldCell (t := 40) gb Try.underlying40 (by simp) (by simp) e83
  have ln1 := fun x k c hh => lenSl (h := hh) (n := k) (a := x) (c := c) Try.underlying22
  have ln2 := fun x k c hh => lenSl (h := hh) (n := k) (a := x) (c := c) Try.underlying40
  cases d1 : decide ((a.file.size + a.to.size + a.name.size + a.toName.size + a.path.size + a.data.length : Int) < 30000)
  · repeat (first | (with_reducible refine Wp.st ?_; simp only [wS]) | with_reducible refine Wp.drawS (by decide +kernel) ?_ | simp (disch := (first | (simp only [List.length_set, hl]; omega) | omega | rfl)) only [walkA, walkB, bne_self_eq_false, beq_self_eq_true, Option.map_some, Option.map_none, reduceIte, decide_true, decide_false, Int.reduceLT, Int.reduceLE, Int.reduceMul, Int.reduceAdd, Int.reduceSub, h0, h1, xa, xb, la, faA0, faA1, faA2, faA3, faA4, faA14, faQ8, faQ10, faQ13, faQ17, l74, l76, l79, l83, ln1, ln2, lenStr, d1])
    simp (disch := (first | (simp only [List.length_set, hl]; omega) | omega | rfl)) only [aRes_one Try.results9, sL]
    exact ⟨rfl, sm⟩
  cases d2 : decide ((hs.size + ps.size + n : Int) < 30000)
  · repeat (first | (with_reducible refine Wp.st ?_; simp only [wS]) | with_reducible refine Wp.drawS (by decide +kernel) ?_ | simp (disch := (first | (simp only [List.length_set, hl]; omega) | omega | rfl)) only [walkA, walkB, bne_self_eq_false, beq_self_eq_true, Option.map_some, Option.map_none, reduceIte, decide_true, decide_false, Int.reduceLT, Int.reduceLE, Int.reduceMul, Int.reduceAdd, Int.reduceSub, h0, h1, xa, xb, la, faA0, faA1, faA2, faA3, faA4, faA14, faQ8, faQ10, faQ13, faQ17, l74, l76, l79, l83, ln1, ln2, lenStr, d1, d2])
    simp (disch := (first | (simp only [List.length_set, hl]; omega) | omega | rfl)) only [aRes_one Try.results9, sL]
    exact ⟨rfl, sm⟩
  repeat (first | (with_reducible refine Wp.st ?_; simp only [wS]) | with_reducible refine Wp.drawS (by decide +kernel) ?_ | simp (disch := (first | (simp only [List.length_set, hl]; omega) | omega | rfl)) only [walkA, walkB, bne_self_eq_false, beq_self_eq_true, Option.map_some, Option.map_none, reduceIte, decide_true, decide_false, Int.reduceLT, Int.reduceLE, Int.reduceMul, Int.reduceAdd, Int.reduceSub, h0, h1, xa, xb, la, faA0, faA1, faA2, faA3, faA4, faA14, faQ8, faQ10, faQ13, faQ17, l74, l76, l79, l83, ln1, ln2, lenStr, d1, d2])
  simp (disch := (first | (simp only [List.length_set, hl]; omega) | omega | rfl)) only [aRes_one Try.results9, sL]
  exact ⟨by simp, sm⟩
def sZ : SA := ⟨false, false, false, false, 0, 0, 0, 0, 0, 0, 0, 0, 0, 0⟩
def aZ : AR := ⟨⟨#[]⟩, ⟨#[]⟩, ⟨#[]⟩, ⟨#[]⟩, ⟨#[]⟩, sZ, false, 0, 0, 0, 0, 0, 0, 0, 0, .slice none 0 0, [], 0, 0, 0, 0, 0, 0, 0⟩
theorem u0 : u32r 0 := ⟨by decide, by decide⟩
def aK : AR := { aZ with file := ⟨#[97, 98, 99, 100]⟩, access := 63 }
theorem aK_ok : aK.OK := AR.WF.ok ⟨⟨u0, u0, u0, u0, u0, u0⟩, u0, u0, ⟨by decide, by decide⟩, u0, u0, u0, u0, u0, ⟨_, _, _, rfl⟩, ⟨⟨#[]⟩, rfl⟩⟩ (by decide)
theorem bK : aBuild Try.prog 30 [(0, .string ⟨#[97, 98, 99, 100]⟩), (8, .int .u32 63)] = some (.agg aK.cells.toArray) := by kernel_rfl
def kB : List Value := [0, 0, 0, 4, 97, 98, 99, 100, 0, 0, 0, 63].map (Value.int .u8)
theorem kW : wrArgs 4 aK = (kB, 0) := by kernel_rfl
theorem kS : strS kB = ⟨#[0, 0, 0, 4, 97, 98, 99, 100, 0, 0, 0, 63]⟩ := by kernel_rfl
theorem ext0 {a b : Value} : aExtract (.tuple #[a, b]) 0 = some a := (rfl)
theorem ext1 {a b : Value} : aExtract (.tuple #[a, b]) 1 = some b := (rfl)
theorem known_am (h : Heap) : Cl Try.prog 8 [] h fun v h' => v = .bool true ∧ Same h h' noS := by
  refine Cl.enter Try.func8 rfl _ Try.ntmps8 (by simp) ?_
  intro env hl ha
  clear ha
  repeat (first | (with_reducible refine Wp.st ?_; simp only [wS]) | with_reducible refine Wp.drawS (by decide +kernel) ?_ | simp (disch := (first | (simp only [List.length_set, hl]; omega) | omega | rfl)) only [walkA, walkB, bne_self_eq_false, beq_self_eq_true, Option.map_some, Option.map_none, reduceIte, decide_true, decide_false, Int.reduceLT, Int.reduceLE, Int.reduceMul, Int.reduceAdd, Int.reduceSub, bK])
  refine (writeArgs_am 4 aK aK_ok h (.inl ⟨rfl, rfl⟩)).mono ?_
  intro v h2 q
  obtain ⟨bv, e, ob, sm, _, _⟩ := q
  rw [kW] at e ob
  rw [e]
  have cv := conv_row ob.row ⟨_, rfl⟩
  rw [kS] at cv
  repeat (first | (with_reducible refine Wp.st ?_; simp only [wS]) | with_reducible refine Wp.drawS (by decide +kernel) ?_ | simp (disch := (first | (simp only [List.length_set, hl]; omega) | omega | rfl)) only [walkA, walkB, bne_self_eq_false, beq_self_eq_true, Option.map_some, Option.map_none, reduceIte, decide_true, decide_false, Int.reduceLT, Int.reduceLE, Int.reduceMul, Int.reduceAdd, Int.reduceSub, cv, bin_str, ext0, ext1])
  simp (disch := (first | (simp only [List.length_set, hl]; omega) | omega | rfl)) only [aRes_one Try.results8, sL]
  exact ⟨by trivial, sm⟩
end Go.Proofs.Ytanknjpcgceccaa

namespace Go.Proofs.Ytanknjpcgceccaa
open Go Go.AM
set_option linter.unusedSimpArgs false
set_option maxRecDepth 100000
attribute [local irreducible] WOps WV WH WSt WNil WPick WGd
def wMore (p : Int) (a : AR) (x : WS) : WS :=
  if p = 8 then (if a.mode = 2 then wU64 a.verf (wNum 0 2 a.mode x) else wSet a.set (wNum 0 2 a.mode x))
  else if p = 9 then wSet a.set x
  else if p = 10 then wText 1024 a.path (wSet a.set x)
  else if p = 11 then (if a.type = 3 ∨ a.type = 4 then wU32 a.spec2 (wU32 a.spec1 (wSet a.set (wNum 1 7 a.type x))) else if a.type = 6 ∨ a.type = 7 then wSet a.set (wNum 1 7 a.type x) else wNum 1 7 a.type x)
  else if p = 14 ∨ p = 15 then wText 255 a.toName (wText 64 a.to x)
  else if p = 16 then wU32 a.count (wU64 a.cookieVerf (wU64 a.cookie x))
  else if p = 17 then wU32 a.maxCount (wU32 a.dirCount (wU64 a.cookieVerf (wU64 a.cookie x)))
  else x
section
variable {Z : Nat → Prop} {H0 h h' : Heap} {ko kw : Nat} {x : WS} {L L' : List Blk} {kt : Nat} {T : TypeId} {a : AR}
theorem iSet19 : Try.prog.info? 28 = some Try.t28 := by kernel_rfl
theorem OW.ldSet (c : OW Z H0 h ko kw x ((kt, a.cells, T) :: L)) : aLoad Try.prog h 28 (pt kt 5) = some (.agg a.set.cells.toArray) := by
  rw [c.ldS Try.underlying28 iSet19 5 (by show 5 + 14 ≤ _; simp [AR.cells, SA.cells])]
  rfl
theorem OW.cvData {dv : Value} {s : ByteArray} (c : OW Z H0 h ko kw x L) (r : Row H0 dv (strB s)) (hz : ∀ b n d, dv = .slice (some b) n d → n ≠ 0 → Z b.block) : aConv Try.prog h 22 9 dv = some (.string s, h) := by
  obtain ⟨wv, c⟩ := c
  exact cvBack s h dv (c.st.stayed r hz)
set_option maxHeartbeats 8000000 in
theorem oMore' {p : Int} (hp : p = 0 ∨ p = 1 ∨ p = 3 ∨ p = 5 ∨ p = 8 ∨ p = 9 ∨ p = 10 ∨ p = 12 ∨ p = 13 ∨ p = 14 ∨ p = 15 ∨ p = 16 ∨ p = 17 ∨ p = 18 ∨ p = 19 ∨ p = 20 ∨ p = 100 ∨ p = 102 ∨ p = 104 ∨ p = 105) (hok : a.OK) (sm : Sm 6 x) (c : OW Z H0 h ko kw x L) :
    Cl Try.prog 45 [pt ko 0, .int .i64 p, .agg a.cells.toArray] h fun v h' => v = .tuple #[] ∧ OW Z H0 h' ko kw (wMore p a x) L := by
  refine Cl.enter Try.func45 rfl _ Try.ntmps45 (by simp) ?_
  intro env hl ha
  have h0 : sl env 0 = pt ko 0 := ha 0 (by simp)
  have h1 : sl env 1 = .int .i64 p := ha 1 (by simp)
  have h2 : sl env 2 = .agg a.cells.toArray := ha 2 (by simp)
  clear ha
  have ha_g1 := hok.g1
  have ha_g2 := hok.g2
  have ha_access := hok.access
  have ha_count := hok.count
  have ha_dirCount := hok.dirCount
  have ha_maxCount := hok.maxCount
  have ha_spec1 := hok.spec1
  have ha_spec2 := hok.spec2
  have hb_file := Nat.le_trans hok.file (show 30000 ≤ 40000 by decide)
  have hc_file := hok.file
  have hb_to := Nat.le_trans hok.to (show 30000 ≤ 40000 by decide)
  have hc_to := hok.to
  have hb_name := Nat.le_trans hok.name (show 30000 ≤ 40000 by decide)
  have hc_name := hok.name
  have hb_toName := Nat.le_trans hok.toName (show 30000 ≤ 40000 by decide)
  have hc_toName := hok.toName
  have hb_path := Nat.le_trans hok.path (show 30000 ≤ 40000 by decide)
  have hc_path := hok.path
  have hb_data := Nat.le_trans hok.data (show 30000 ≤ 40000 by decide)
  have hc_data := hok.data
  have xb : aBox h 30 (.agg a.cells.toArray) = some (pt h.next 0, h.push (.cells a.cells TA false)) := by
    have := a.one hok
    simp [aBox, aNew, Value.cells, this]
  replace c := c.alloc a.cells TA
  generalize h.push (.cells a.cells TA false) = hq at xb c
  generalize h.next = kt at xb c
  rcases hp with rfl | rfl | rfl | rfl | rfl | rfl | rfl | rfl | rfl | rfl | rfl | rfl | rfl | rfl | rfl | rfl | rfl | rfl | rfl | rfl
  all_goals repeat' (first | (with_reducible refine Wp.st ?_; simp only [wS]) | with_reducible refine Wp.drawS (by decide +kernel) ?_ | (refine Wp.cond_true ?_ ?_; focus ((simp (disch := (first | (simp only [List.length_set, hl]; omega) | omega | rfl)) only [sL, aEval_tmp]); done)) | (refine Wp.cond_false ?_ ?_; focus ((simp (disch := (first | (simp only [List.length_set, hl]; omega) | omega | rfl)) only [sL, aEval_tmp]); done)) | ((with_reducible apply Cl.mono (oU32 c ?g0 ?g1)); (case g0 => (assumption)); (case g1 => ((refine Sm.s9 ?_; (repeat (with_reducible first | refine sm_text (by assumption) ?_ | refine sm_u32 ?_ | refine sm_u64 ?_ | refine sm_num ?_ | refine sm_set ?_ | refine sm_time ?_ | refine sm_bool ?_)); exact Sm.le sm (by decide)))); intro v ha q; (try rw [q.1]); replace c := q.2; clear q) | ((with_reducible apply Cl.mono (oU64 c ?g0)); (case g0 => ((refine Sm.s9 ?_; (repeat (with_reducible first | refine sm_text (by assumption) ?_ | refine sm_u32 ?_ | refine sm_u64 ?_ | refine sm_num ?_ | refine sm_set ?_ | refine sm_time ?_ | refine sm_bool ?_)); exact Sm.le sm (by decide)))); intro v ha q; (try rw [q.1]); replace c := q.2; clear q) | ((with_reducible apply Cl.mono (oBool c ?g0)); (case g0 => ((refine Sm.s9 ?_; (repeat (with_reducible first | refine sm_text (by assumption) ?_ | refine sm_u32 ?_ | refine sm_u64 ?_ | refine sm_num ?_ | refine sm_set ?_ | refine sm_time ?_ | refine sm_bool ?_)); exact Sm.le sm (by decide)))); intro v ha q; (try rw [q.1]); replace c := q.2; clear q) | ((with_reducible apply Cl.mono (oUpto c ?g0)); (case g0 => ((refine Sm.s9 ?_; (repeat (with_reducible first | refine sm_text (by assumption) ?_ | refine sm_u32 ?_ | refine sm_u64 ?_ | refine sm_num ?_ | refine sm_set ?_ | refine sm_time ?_ | refine sm_bool ?_)); exact Sm.le sm (by decide)))); intro v ha q; (try rw [q.1]); replace c := q.2; clear q) | ((with_reducible apply Cl.mono (oTime c ?g0 ?g1 ?g2)); (case g0 => (assumption)); (case g1 => (assumption)); (case g2 => ((skip; (repeat (with_reducible first | refine sm_text (by assumption) ?_ | refine sm_u32 ?_ | refine sm_u64 ?_ | refine sm_num ?_ | refine sm_set ?_ | refine sm_time ?_ | refine sm_bool ?_)); exact Sm.le sm (by decide)))); intro v ha q; (try rw [q.1]); replace c := q.2; clear q) | ((with_reducible apply Cl.mono (oText c ?g0 ?g1)); (case g0 => (assumption)); (case g1 => ((refine Sm.s9 ?_; (repeat (with_reducible first | refine sm_text (by assumption) ?_ | refine sm_u32 ?_ | refine sm_u64 ?_ | refine sm_num ?_ | refine sm_set ?_ | refine sm_time ?_ | refine sm_bool ?_)); exact Sm.le sm (by decide)))); intro v ha q; (try rw [q.1]); replace c := q.2; clear q) | ((with_reducible apply Cl.mono (oSet hok.set c ?g0)); (case g0 => ((skip; (repeat (with_reducible first | refine sm_text (by assumption) ?_ | refine sm_u32 ?_ | refine sm_u64 ?_ | refine sm_num ?_ | refine sm_set ?_ | refine sm_time ?_ | refine sm_bool ?_)); exact Sm.le sm (by decide)))); intro v ha q; (try rw [q.1]); replace c := q.2; clear q) | simp (disch := (first | (simp only [List.length_set, hl]; omega) | omega | rfl)) only [walkA, walkB, bne_self_eq_false, beq_self_eq_true, Option.map_some, Option.map_none, reduceIte, decide_true, decide_false, Int.reduceLT, Int.reduceLE, Int.reduceMul, Int.reduceAdd, Int.reduceSub, h0, h1, h2, xb, faO0, faA0, faA1, faA2, faA3, faA4, faA5, faA6, faA7, faA8, faA9, faA10, faA11, faA12, faA13, faA14, faA15, faA16, faA17, faA18, faA19, faA20, faA21, c.lr, c.ldStr 0 rfl, c.ldStr 1 rfl, c.ldStr 2 rfl, c.ldStr 3 rfl, c.ldStr 4 rfl, c.ldSet, c.ldB 19 rfl, c.ldT 20 rfl rfl, c.ld32 22 rfl, c.ld64 23 rfl, c.ld32 24 rfl, c.ldI 25 rfl, c.ldI 26 rfl, c.ldI 27 rfl, c.ldRow 28 rfl, c.ld64 29 rfl, c.ld64 30 rfl, c.ld64 31 rfl, c.ld32 32 rfl, c.ld32 33 rfl, c.ld32 34 rfl, c.ld32 35 rfl , Int.reduceBEq, Int.reduceBNe, Int.reduceGT, Int.reduceGE, Nat.reduceAdd] | ((refine Wp.cond' ⟨_, by (simp (disch := (first | (simp only [List.length_set, hl]; omega) | omega | rfl)) only [sl_eq, sl_ne, aEval_tmp]; rfl), ?_, ?_⟩ <;> intro hb <;> (try simp only [beq_iff_eq, bne_iff_ne, ne_eq, decide_eq_true_eq, decide_eq_false_iff_not, beq_eq_false_iff_ne, bne_eq_false_iff_eq, Bool.not_eq_true', Bool.not_eq_false'] at hb) <;> (try (exfalso; omega)))))
  all_goals simp only [aRes_none Try.results45]
  all_goals refine ⟨trivial, ?_⟩
  all_goals replace c := c.drop
  all_goals (unfold wMore; repeat' (first | exact c | (exfalso; first | omega | contradiction) | split))
set_option maxHeartbeats 8000000 in
theorem oMore11_3 (ht : a.type = 3) (hok : a.OK) (sm : Sm 6 x) (c : OW Z H0 h ko kw x L) :
    Cl Try.prog 45 [pt ko 0, .int .i64 11, .agg a.cells.toArray] h fun v h' => v = .tuple #[] ∧ OW Z H0 h' ko kw (wMore 11 a x) L := by
  refine Cl.enter Try.func45 rfl _ Try.ntmps45 (by simp) ?_
  intro env hl ha
  have h0 : sl env 0 = pt ko 0 := ha 0 (by simp)
  have h1 : sl env 1 = .int .i64 11 := ha 1 (by simp)
  have h2 : sl env 2 = .agg a.cells.toArray := ha 2 (by simp)
  clear ha
  have ha_g1 := hok.g1
  have ha_g2 := hok.g2
  have ha_access := hok.access
  have ha_count := hok.count
  have ha_dirCount := hok.dirCount
  have ha_maxCount := hok.maxCount
  have ha_spec1 := hok.spec1
  have ha_spec2 := hok.spec2
  have hb_file := Nat.le_trans hok.file (show 30000 ≤ 40000 by decide)
  have hc_file := hok.file
  have hb_to := Nat.le_trans hok.to (show 30000 ≤ 40000 by decide)
  have hc_to := hok.to
  have hb_name := Nat.le_trans hok.name (show 30000 ≤ 40000 by decide)
  have hc_name := hok.name
  have hb_toName := Nat.le_trans hok.toName (show 30000 ≤ 40000 by decide)
  have hc_toName := hok.toName
  have hb_path := Nat.le_trans hok.path (show 30000 ≤ 40000 by decide)
  have hc_path := hok.path
  have hb_data := Nat.le_trans hok.data (show 30000 ≤ 40000 by decide)
  have hc_data := hok.data
  have xb : aBox h 30 (.agg a.cells.toArray) = some (pt h.next 0, h.push (.cells a.cells TA false)) := by
    have := a.one hok
    simp [aBox, aNew, Value.cells, this]
  replace c := c.alloc a.cells TA
  generalize h.push (.cells a.cells TA false) = hq at xb c
  generalize h.next = kt at xb c
  have d3 : (a.type == 3) = true := by rw [ht]; rfl
  have d4 : (a.type == 4) = false := by rw [ht]; rfl
  have d6 : (a.type == 6) = false := by rw [ht]; rfl
  have d7 : (a.type == 7) = false := by rw [ht]; rfl
  repeat' (first | (with_reducible refine Wp.st ?_; simp only [wS]) | with_reducible refine Wp.drawS (by decide +kernel) ?_ | (refine Wp.cond_true ?_ ?_; focus ((simp (disch := (first | (simp only [List.length_set, hl]; omega) | omega | rfl)) only [sL, aEval_tmp]); done)) | (refine Wp.cond_false ?_ ?_; focus ((simp (disch := (first | (simp only [List.length_set, hl]; omega) | omega | rfl)) only [sL, aEval_tmp]); done)) | ((with_reducible apply Cl.mono (oU32 c ?g0 ?g1)); (case g0 => (assumption)); (case g1 => ((refine Sm.s9 ?_; (repeat (with_reducible first | refine sm_text (by assumption) ?_ | refine sm_u32 ?_ | refine sm_u64 ?_ | refine sm_num ?_ | refine sm_set ?_ | refine sm_time ?_ | refine sm_bool ?_)); exact Sm.le sm (by decide)))); intro v ha q; (try rw [q.1]); replace c := q.2; clear q) | ((with_reducible apply Cl.mono (oU64 c ?g0)); (case g0 => ((refine Sm.s9 ?_; (repeat (with_reducible first | refine sm_text (by assumption) ?_ | refine sm_u32 ?_ | refine sm_u64 ?_ | refine sm_num ?_ | refine sm_set ?_ | refine sm_time ?_ | refine sm_bool ?_)); exact Sm.le sm (by decide)))); intro v ha q; (try rw [q.1]); replace c := q.2; clear q) | ((with_reducible apply Cl.mono (oBool c ?g0)); (case g0 => ((refine Sm.s9 ?_; (repeat (with_reducible first | refine sm_text (by assumption) ?_ | refine sm_u32 ?_ | refine sm_u64 ?_ | refine sm_num ?_ | refine sm_set ?_ | refine sm_time ?_ | refine sm_bool ?_)); exact Sm.le sm (by decide)))); intro v ha q; (try rw [q.1]); replace c := q.2; clear q) | ((with_reducible apply Cl.mono (oUpto c ?g0)); (case g0 => ((refine Sm.s9 ?_; (repeat (with_reducible first | refine sm_text (by assumption) ?_ | refine sm_u32 ?_ | refine sm_u64 ?_ | refine sm_num ?_ | refine sm_set ?_ | refine sm_time ?_ | refine sm_bool ?_)); exact Sm.le sm (by decide)))); intro v ha q; (try rw [q.1]); replace c := q.2; clear q) | ((with_reducible apply Cl.mono (oTime c ?g0 ?g1 ?g2)); (case g0 => (assumption)); (case g1 => (assumption)); (case g2 => ((skip; (repeat (with_reducible first | refine sm_text (by assumption) ?_ | refine sm_u32 ?_ | refine sm_u64 ?_ | refine sm_num ?_ | refine sm_set ?_ | refine sm_time ?_ | refine sm_bool ?_)); exact Sm.le sm (by decide)))); intro v ha q; (try rw [q.1]); replace c := q.2; clear q) | ((with_reducible apply Cl.mono (oText c ?g0 ?g1)); (case g0 => (assumption)); (case g1 => ((refine Sm.s9 ?_; (repeat (with_reducible first | refine sm_text (by assumption) ?_ | refine sm_u32 ?_ | refine sm_u64 ?_ | refine sm_num ?_ | refine sm_set ?_ | refine sm_time ?_ | refine sm_bool ?_)); exact Sm.le sm (by decide)))); intro v ha q; (try rw [q.1]); replace c := q.2; clear q) | ((with_reducible apply Cl.mono (oSet hok.set c ?g0)); (case g0 => ((skip; (repeat (with_reducible first | refine sm_text (by assumption) ?_ | refine sm_u32 ?_ | refine sm_u64 ?_ | refine sm_num ?_ | refine sm_set ?_ | refine sm_time ?_ | refine sm_bool ?_)); exact Sm.le sm (by decide)))); intro v ha q; (try rw [q.1]); replace c := q.2; clear q) | simp (disch := (first | (simp only [List.length_set, hl]; omega) | omega | rfl)) only [walkA, walkB, bne_self_eq_false, beq_self_eq_true, Option.map_some, Option.map_none, reduceIte, decide_true, decide_false, Int.reduceLT, Int.reduceLE, Int.reduceMul, Int.reduceAdd, Int.reduceSub, h0, h1, h2, xb, d3, d4, d6, d7, faO0, faA0, faA1, faA2, faA3, faA4, faA5, faA6, faA7, faA8, faA9, faA10, faA11, faA12, faA13, faA14, faA15, faA16, faA17, faA18, faA19, faA20, faA21, c.lr, c.ldStr 0 rfl, c.ldStr 1 rfl, c.ldStr 2 rfl, c.ldStr 3 rfl, c.ldStr 4 rfl, c.ldSet, c.ldB 19 rfl, c.ldT 20 rfl rfl, c.ld32 22 rfl, c.ld64 23 rfl, c.ld32 24 rfl, c.ldI 25 rfl, c.ldI 26 rfl, c.ldI 27 rfl, c.ldRow 28 rfl, c.ld64 29 rfl, c.ld64 30 rfl, c.ld64 31 rfl, c.ld32 32 rfl, c.ld32 33 rfl, c.ld32 34 rfl, c.ld32 35 rfl , Int.reduceBEq, Int.reduceBNe, Int.reduceGT, Int.reduceGE, Nat.reduceAdd])
  all_goals simp only [aRes_none Try.results45]
  all_goals refine ⟨trivial, ?_⟩
  all_goals replace c := c.drop
  all_goals (unfold wMore; repeat' (first | exact c | (exfalso; first | omega | contradiction) | split))
set_option maxHeartbeats 8000000 in
theorem oMore11_4 (ht : a.type = 4) (hok : a.OK) (sm : Sm 6 x) (c : OW Z H0 h ko kw x L) :
    Cl Try.prog 45 [pt ko 0, .int .i64 11, .agg a.cells.toArray] h fun v h' => v = .tuple #[] ∧ OW Z H0 h' ko kw (wMore 11 a x) L := by
  refine Cl.enter Try.func45 rfl _ Try.ntmps45 (by simp) ?_
  intro env hl ha
  have h0 : sl env 0 = pt ko 0 := ha 0 (by simp)
  have h1 : sl env 1 = .int .i64 11 := ha 1 (by simp)
  have h2 : sl env 2 = .agg a.cells.toArray := ha 2 (by simp)
  clear ha
  have ha_g1 := hok.g1
  have ha_g2 := hok.g2
  have ha_access := hok.access
  have ha_count := hok.count
  have ha_dirCount := hok.dirCount
  have ha_maxCount := hok.maxCount
  have ha_spec1 := hok.spec1
  have ha_spec2 := hok.spec2
  have hb_file := Nat.le_trans hok.file (show 30000 ≤ 40000 by decide)
  have hc_file := hok.file
  have hb_to := Nat.le_trans hok.to (show 30000 ≤ 40000 by decide)
  have hc_to := hok.to
  have hb_name := Nat.le_trans hok.name (show 30000 ≤ 40000 by decide)
  have hc_name := hok.name
  have hb_toName := Nat.le_trans hok.toName (show 30000 ≤ 40000 by decide)
  have hc_toName := hok.toName
  have hb_path := Nat.le_trans hok.path (show 30000 ≤ 40000 by decide)
  have hc_path := hok.path
  have hb_data := Nat.le_trans hok.data (show 30000 ≤ 40000 by decide)
  have hc_data := hok.data
  have xb : aBox h 30 (.agg a.cells.toArray) = some (pt h.next 0, h.push (.cells a.cells TA false)) := by
    have := a.one hok
    simp [aBox, aNew, Value.cells, this]
  replace c := c.alloc a.cells TA
  generalize h.push (.cells a.cells TA false) = hq at xb c
  generalize h.next = kt at xb c
  have d3 : (a.type == 3) = false := by rw [ht]; rfl
  have d4 : (a.type == 4) = true := by rw [ht]; rfl
  have d6 : (a.type == 6) = false := by rw [ht]; rfl
  have d7 : (a.type == 7) = false := by rw [ht]; rfl
  repeat' (first | (with_reducible refine Wp.st ?_; simp only [wS]) | with_reducible refine Wp.drawS (by decide +kernel) ?_ | (refine Wp.cond_true ?_ ?_; focus ((simp (disch := (first | (simp only [List.length_set, hl]; omega) | omega | rfl)) only [sL, aEval_tmp]); done)) | (refine Wp.cond_false ?_ ?_; focus ((simp (disch := (first | (simp only [List.length_set, hl]; omega) | omega | rfl)) only [sL, aEval_tmp]); done)) | ((with_reducible apply Cl.mono (oU32 c ?g0 ?g1)); (case g0 => (assumption)); (case g1 => ((refine Sm.s9 ?_; (repeat (with_reducible first | refine sm_text (by assumption) ?_ | refine sm_u32 ?_ | refine sm_u64 ?_ | refine sm_num ?_ | refine sm_set ?_ | refine sm_time ?_ | refine sm_bool ?_)); exact Sm.le sm (by decide)))); intro v ha q; (try rw [q.1]); replace c := q.2; clear q) | ((with_reducible apply Cl.mono (oU64 c ?g0)); (case g0 => ((refine Sm.s9 ?_; (repeat (with_reducible first | refine sm_text (by assumption) ?_ | refine sm_u32 ?_ | refine sm_u64 ?_ | refine sm_num ?_ | refine sm_set ?_ | refine sm_time ?_ | refine sm_bool ?_)); exact Sm.le sm (by decide)))); intro v ha q; (try rw [q.1]); replace c := q.2; clear q) | ((with_reducible apply Cl.mono (oBool c ?g0)); (case g0 => ((refine Sm.s9 ?_; (repeat (with_reducible first | refine sm_text (by assumption) ?_ | refine sm_u32 ?_ | refine sm_u64 ?_ | refine sm_num ?_ | refine sm_set ?_ | refine sm_time ?_ | refine sm_bool ?_)); exact Sm.le sm (by decide)))); intro v ha q; (try rw [q.1]); replace c := q.2; clear q) | ((with_reducible apply Cl.mono (oUpto c ?g0)); (case g0 => ((refine Sm.s9 ?_; (repeat (with_reducible first | refine sm_text (by assumption) ?_ | refine sm_u32 ?_ | refine sm_u64 ?_ | refine sm_num ?_ | refine sm_set ?_ | refine sm_time ?_ | refine sm_bool ?_)); exact Sm.le sm (by decide)))); intro v ha q; (try rw [q.1]); replace c := q.2; clear q) | ((with_reducible apply Cl.mono (oTime c ?g0 ?g1 ?g2)); (case g0 => (assumption)); (case g1 => (assumption)); (case g2 => ((skip; (repeat (with_reducible first | refine sm_text (by assumption) ?_ | refine sm_u32 ?_ | refine sm_u64 ?_ | refine sm_num ?_ | refine sm_set ?_ | refine sm_time ?_ | refine sm_bool ?_)); exact Sm.le sm (by decide)))); intro v ha q; (try rw [q.1]); replace c := q.2; clear q) | ((with_reducible apply Cl.mono (oText c ?g0 ?g1)); (case g0 => (assumption)); (case g1 => ((refine Sm.s9 ?_; (repeat (with_reducible first | refine sm_text (by assumption) ?_ | refine sm_u32 ?_ | refine sm_u64 ?_ | refine sm_num ?_ | refine sm_set ?_ | refine sm_time ?_ | refine sm_bool ?_)); exact Sm.le sm (by decide)))); intro v ha q; (try rw [q.1]); replace c := q.2; clear q) | ((with_reducible apply Cl.mono (oSet hok.set c ?g0)); (case g0 => ((skip; (repeat (with_reducible first | refine sm_text (by assumption) ?_ | refine sm_u32 ?_ | refine sm_u64 ?_ | refine sm_num ?_ | refine sm_set ?_ | refine sm_time ?_ | refine sm_bool ?_)); exact Sm.le sm (by decide)))); intro v ha q; (try rw [q.1]); replace c := q.2; clear q) | simp (disch := (first | (simp only [List.length_set, hl]; omega) | omega | rfl)) only [walkA, walkB, bne_self_eq_false, beq_self_eq_true, Option.map_some, Option.map_none, reduceIte, decide_true, decide_false, Int.reduceLT, Int.reduceLE, Int.reduceMul, Int.reduceAdd, Int.reduceSub, h0, h1, h2, xb, d3, d4, d6, d7, faO0, faA0, faA1, faA2, faA3, faA4, faA5, faA6, faA7, faA8, faA9, faA10, faA11, faA12, faA13, faA14, faA15, faA16, faA17, faA18, faA19, faA20, faA21, c.lr, c.ldStr 0 rfl, c.ldStr 1 rfl, c.ldStr 2 rfl, c.ldStr 3 rfl, c.ldStr 4 rfl, c.ldSet, c.ldB 19 rfl, c.ldT 20 rfl rfl, c.ld32 22 rfl, c.ld64 23 rfl, c.ld32 24 rfl, c.ldI 25 rfl, c.ldI 26 rfl, c.ldI 27 rfl, c.ldRow 28 rfl, c.ld64 29 rfl, c.ld64 30 rfl, c.ld64 31 rfl, c.ld32 32 rfl, c.ld32 33 rfl, c.ld32 34 rfl, c.ld32 35 rfl , Int.reduceBEq, Int.reduceBNe, Int.reduceGT, Int.reduceGE, Nat.reduceAdd])
  all_goals simp only [aRes_none Try.results45]
  all_goals refine ⟨trivial, ?_⟩
  all_goals replace c := c.drop
  all_goals (unfold wMore; repeat' (first | exact c | (exfalso; first | omega | contradiction) | split))
set_option maxHeartbeats 8000000 in
theorem oMore11_6 (ht : a.type = 6) (hok : a.OK) (sm : Sm 6 x) (c : OW Z H0 h ko kw x L) :
    Cl Try.prog 45 [pt ko 0, .int .i64 11, .agg a.cells.toArray] h fun v h' => v = .tuple #[] ∧ OW Z H0 h' ko kw (wMore 11 a x) L := by
  refine Cl.enter Try.func45 rfl _ Try.ntmps45 (by simp) ?_
  intro env hl ha
  have h0 : sl env 0 = pt ko 0 := ha 0 (by simp)
  have h1 : sl env 1 = .int .i64 11 := ha 1 (by simp)
  have h2 : sl env 2 = .agg a.cells.toArray := ha 2 (by simp)
  clear ha
  have ha_g1 := hok.g1
  have ha_g2 := hok.g2
  have ha_access := hok.access
  have ha_count := hok.count
  have ha_dirCount := hok.dirCount
  have ha_maxCount := hok.maxCount
  have ha_spec1 := hok.spec1
  have ha_spec2 := hok.spec2
  have hb_file := Nat.le_trans hok.file (show 30000 ≤ 40000 by decide)
  have hc_file := hok.file
  have hb_to := Nat.le_trans hok.to (show 30000 ≤ 40000 by decide)
  have hc_to := hok.to
  have hb_name := Nat.le_trans hok.name (show 30000 ≤ 40000 by decide)
  have hc_name := hok.name
  have hb_toName := Nat.le_trans hok.toName (show 30000 ≤ 40000 by decide)
  have hc_toName := hok.toName
  have hb_path := Nat.le_trans hok.path (show 30000 ≤ 40000 by decide)
  have hc_path := hok.path
  have hb_data := Nat.le_trans hok.data (show 30000 ≤ 40000 by decide)
  have hc_data := hok.data
  have xb : aBox h 30 (.agg a.cells.toArray) = some (pt h.next 0, h.push (.cells a.cells TA false)) := by
    have := a.one hok
    simp [aBox, aNew, Value.cells, this]
  replace c := c.alloc a.cells TA
  generalize h.push (.cells a.cells TA false) = hq at xb c
  generalize h.next = kt at xb c
  have d3 : (a.type == 3) = false := by rw [ht]; rfl
  have d4 : (a.type == 4) = false := by rw [ht]; rfl
  have d6 : (a.type == 6) = true := by rw [ht]; rfl
  have d7 : (a.type == 7) = false := by rw [ht]; rfl
  repeat' (first | (with_reducible refine Wp.st ?_; simp only [wS]) | with_reducible refine Wp.drawS (by decide +kernel) ?_ | (refine Wp.cond_true ?_ ?_; focus ((simp (disch := (first | (simp only [List.length_set, hl]; omega) | omega | rfl)) only [sL, aEval_tmp]); done)) | (refine Wp.cond_false ?_ ?_; focus ((simp (disch := (first | (simp only [List.length_set, hl]; omega) | omega | rfl)) only [sL, aEval_tmp]); done)) | ((with_reducible apply Cl.mono (oU32 c ?g0 ?g1)); (case g0 => (assumption)); (case g1 => ((refine Sm.s9 ?_; (repeat (with_reducible first | refine sm_text (by assumption) ?_ | refine sm_u32 ?_ | refine sm_u64 ?_ | refine sm_num ?_ | refine sm_set ?_ | refine sm_time ?_ | refine sm_bool ?_)); exact Sm.le sm (by decide)))); intro v ha q; (try rw [q.1]); replace c := q.2; clear q) | ((with_reducible apply Cl.mono (oU64 c ?g0)); (case g0 => ((refine Sm.s9 ?_; (repeat (with_reducible first | refine sm_text (by assumption) ?_ | refine sm_u32 ?_ | refine sm_u64 ?_ | refine sm_num ?_ | refine sm_set ?_ | refine sm_time ?_ | refine sm_bool ?_)); exact Sm.le sm (by decide)))); intro v ha q; (try rw [q.1]); replace c := q.2; clear q) | ((with_reducible apply Cl.mono (oBool c ?g0)); (case g0 => ((refine Sm.s9 ?_; (repeat (with_reducible first | refine sm_text (by assumption) ?_ | refine sm_u32 ?_ | refine sm_u64 ?_ | refine sm_num ?_ | refine sm_set ?_ | refine sm_time ?_ | refine sm_bool ?_)); exact Sm.le sm (by decide)))); intro v ha q; (try rw [q.1]); replace c := q.2; clear q) | ((with_reducible apply Cl.mono (oUpto c ?g0)); (case g0 => ((refine Sm.s9 ?_; (repeat (with_reducible first | refine sm_text (by assumption) ?_ | refine sm_u32 ?_ | refine sm_u64 ?_ | refine sm_num ?_ | refine sm_set ?_ | refine sm_time ?_ | refine sm_bool ?_)); exact Sm.le sm (by decide)))); intro v ha q; (try rw [q.1]); replace c := q.2; clear q) | ((with_reducible apply Cl.mono (oTime c ?g0 ?g1 ?g2)); (case g0 => (assumption)); (case g1 => (assumption)); (case g2 => ((skip; (repeat (with_reducible first | refine sm_text (by assumption) ?_ | refine sm_u32 ?_ | refine sm_u64 ?_ | refine sm_num ?_ | refine sm_set ?_ | refine sm_time ?_ | refine sm_bool ?_)); exact Sm.le sm (by decide)))); intro v ha q; (try rw [q.1]); replace c := q.2; clear q) | ((with_reducible apply Cl.mono (oText c ?g0 ?g1)); (case g0 => (assumption)); (case g1 => ((refine Sm.s9 ?_; (repeat (with_reducible first | refine sm_text (by assumption) ?_ | refine sm_u32 ?_ | refine sm_u64 ?_ | refine sm_num ?_ | refine sm_set ?_ | refine sm_time ?_ | refine sm_bool ?_)); exact Sm.le sm (by decide)))); intro v ha q; (try rw [q.1]); replace c := q.2; clear q) | ((with_reducible apply Cl.mono (oSet hok.set c ?g0)); (case g0 => ((skip; (repeat (with_reducible first | refine sm_text (by assumption) ?_ | refine sm_u32 ?_ | refine sm_u64 ?_ | refine sm_num ?_ | refine sm_set ?_ | refine sm_time ?_ | refine sm_bool ?_)); exact Sm.le sm (by decide)))); intro v ha q; (try rw [q.1]); replace c := q.2; clear q) | simp (disch := (first | (simp only [List.length_set, hl]; omega) | omega | rfl)) only [walkA, walkB, bne_self_eq_false, beq_self_eq_true, Option.map_some, Option.map_none, reduceIte, decide_true, decide_false, Int.reduceLT, Int.reduceLE, Int.reduceMul, Int.reduceAdd, Int.reduceSub, h0, h1, h2, xb, d3, d4, d6, d7, faO0, faA0, faA1, faA2, faA3, faA4, faA5, faA6, faA7, faA8, faA9, faA10, faA11, faA12, faA13, faA14, faA15, faA16, faA17, faA18, faA19, faA20, faA21, c.lr, c.ldStr 0 rfl, c.ldStr 1 rfl, c.ldStr 2 rfl, c.ldStr 3 rfl, c.ldStr 4 rfl, c.ldSet, c.ldB 19 rfl, c.ldT 20 rfl rfl, c.ld32 22 rfl, c.ld64 23 rfl, c.ld32 24 rfl, c.ldI 25 rfl, c.ldI 26 rfl, c.ldI 27 rfl, c.ldRow 28 rfl, c.ld64 29 rfl, c.ld64 30 rfl, c.ld64 31 rfl, c.ld32 32 rfl, c.ld32 33 rfl, c.ld32 34 rfl, c.ld32 35 rfl , Int.reduceBEq, Int.reduceBNe, Int.reduceGT, Int.reduceGE, Nat.reduceAdd])
  all_goals simp only [aRes_none Try.results45]
  all_goals refine ⟨trivial, ?_⟩
  all_goals replace c := c.drop
  all_goals (unfold wMore; repeat' (first | exact c | (exfalso; first | omega | contradiction) | split))
set_option maxHeartbeats 8000000 in
theorem oMore11_7 (ht : a.type = 7) (hok : a.OK) (sm : Sm 6 x) (c : OW Z H0 h ko kw x L) :
    Cl Try.prog 45 [pt ko 0, .int .i64 11, .agg a.cells.toArray] h fun v h' => v = .tuple #[] ∧ OW Z H0 h' ko kw (wMore 11 a x) L := by
  refine Cl.enter Try.func45 rfl _ Try.ntmps45 (by simp) ?_
  intro env hl ha
  have h0 : sl env 0 = pt ko 0 := ha 0 (by simp)
  have h1 : sl env 1 = .int .i64 11 := ha 1 (by simp)
  have h2 : sl env 2 = .agg a.cells.toArray := ha 2 (by simp)
  clear ha
  have ha_g1 := hok.g1
  have ha_g2 := hok.g2
  have ha_access := hok.access
  have ha_count := hok.count
  have ha_dirCount := hok.dirCount
  have ha_maxCount := hok.maxCount
  have ha_spec1 := hok.spec1
  have ha_spec2 := hok.spec2
  have hb_file := Nat.le_trans hok.file (show 30000 ≤ 40000 by decide)
  have hc_file := hok.file
  have hb_to := Nat.le_trans hok.to (show 30000 ≤ 40000 by decide)
  have hc_to := hok.to
  have hb_name := Nat.le_trans hok.name (show 30000 ≤ 40000 by decide)
  have hc_name := hok.name
  have hb_toName := Nat.le_trans hok.toName (show 30000 ≤ 40000 by decide)
  have hc_toName := hok.toName
  have hb_path := Nat.le_trans hok.path (show 30000 ≤ 40000 by decide)
  have hc_path := hok.path
  have hb_data := Nat.le_trans hok.data (show 30000 ≤ 40000 by decide)
  have hc_data := hok.data
  have xb : aBox h 30 (.agg a.cells.toArray) = some (pt h.next 0, h.push (.cells a.cells TA false)) := by
    have := a.one hok
    simp [aBox, aNew, Value.cells, this]
  replace c := c.alloc a.cells TA
  generalize h.push (.cells a.cells TA false) = hq at xb c
  generalize h.next = kt at xb c
  have d3 : (a.type == 3) = false := by rw [ht]; rfl
  have d4 : (a.type == 4) = false := by rw [ht]; rfl
  have d6 : (a.type == 6) = false := by rw [ht]; rfl
  have d7 : (a.type == 7) = true := by rw [ht]; rfl
  repeat' (first | (with_reducible refine Wp.st ?_; simp only [wS]) | with_reducible refine Wp.drawS (by decide +kernel) ?_ | (refine Wp.cond_true ?_ ?_; focus ((simp (disch := (first | (simp only [List.length_set, hl]; omega) | omega | rfl)) only [sL, aEval_tmp]); done)) | (refine Wp.cond_false ?_ ?_; focus ((simp (disch := (first | (simp only [List.length_set, hl]; omega) | omega | rfl)) only [sL, aEval_tmp]); done)) | ((with_reducible apply Cl.mono (oU32 c ?g0 ?g1)); (case g0 => (assumption)); (case g1 => ((refine Sm.s9 ?_; (repeat (with_reducible first | refine sm_text (by assumption) ?_ | refine sm_u32 ?_ | refine sm_u64 ?_ | refine sm_num ?_ | refine sm_set ?_ | refine sm_time ?_ | refine sm_bool ?_)); exact Sm.le sm (by decide)))); intro v ha q; (try rw [q.1]); replace c := q.2; clear q) | ((with_reducible apply Cl.mono (oU64 c ?g0)); (case g0 => ((refine Sm.s9 ?_; (repeat (with_reducible first | refine sm_text (by assumption) ?_ | refine sm_u32 ?_ | refine sm_u64 ?_ | refine sm_num ?_ | refine sm_set ?_ | refine sm_time ?_ | refine sm_bool ?_)); exact Sm.le sm (by decide)))); intro v ha q; (try rw [q.1]); replace c := q.2; clear q) | ((with_reducible apply Cl.mono (oBool c ?g0)); (case g0 => ((refine Sm.s9 ?_; (repeat (with_reducible first | refine sm_text (by assumption) ?_ | refine sm_u32 ?_ | refine sm_u64 ?_ | refine sm_num ?_ | refine sm_set ?_ | refine sm_time ?_ | refine sm_bool ?_)); exact Sm.le sm (by decide)))); intro v ha q; (try rw [q.1]); replace c := q.2; clear q) | ((with_reducible apply Cl.mono (oUpto c ?g0)); (case g0 => ((refine Sm.s9 ?_; (repeat (with_reducible first | refine sm_text (by assumption) ?_ | refine sm_u32 ?_ | refine sm_u64 ?_ | refine sm_num ?_ | refine sm_set ?_ | refine sm_time ?_ | refine sm_bool ?_)); exact Sm.le sm (by decide)))); intro v ha q; (try rw [q.1]); replace c := q.2; clear q) | ((with_reducible apply Cl.mono (oTime c ?g0 ?g1 ?g2)); (case g0 => (assumption)); (case g1 => (assumption)); (case g2 => ((skip; (repeat (with_reducible first | refine sm_text (by assumption) ?_ | refine sm_u32 ?_ | refine sm_u64 ?_ | refine sm_num ?_ | refine sm_set ?_ | refine sm_time ?_ | refine sm_bool ?_)); exact Sm.le sm (by decide)))); intro v ha q; (try rw [q.1]); replace c := q.2; clear q) | ((with_reducible apply Cl.mono (oText c ?g0 ?g1)); (case g0 => (assumption)); (case g1 => ((refine Sm.s9 ?_; (repeat (with_reducible first | refine sm_text (by assumption) ?_ | refine sm_u32 ?_ | refine sm_u64 ?_ | refine sm_num ?_ | refine sm_set ?_ | refine sm_time ?_ | refine sm_bool ?_)); exact Sm.le sm (by decide)))); intro v ha q; (try rw [q.1]); replace c := q.2; clear q) | ((with_reducible apply Cl.mono (oSet hok.set c ?g0)); (case g0 => ((skip; (repeat (with_reducible first | refine sm_text (by assumption) ?_ | refine sm_u32 ?_ | refine sm_u64 ?_ | refine sm_num ?_ | refine sm_set ?_ | refine sm_time ?_ | refine sm_bool ?_)); exact Sm.le sm (by decide)))); intro v ha q; (try rw [q.1]); replace c := q.2; clear q) | simp (disch := (first | (simp only [List.length_set, hl]; omega) | omega | rfl)) only [walkA, walkB, bne_self_eq_false, beq_self_eq_true, Option.map_some, Option.map_none, reduceIte, decide_true, decide_false, Int.reduceLT, Int.reduceLE, Int.reduceMul, Int.reduceAdd, Int.reduceSub, h0, h1, h2, xb, d3, d4, d6, d7, faO0, faA0, faA1, faA2, faA3, faA4, faA5, faA6, faA7, faA8, faA9, faA10, faA11, faA12, faA13, faA14, faA15, faA16, faA17, faA18, faA19, faA20, faA21, c.lr, c.ldStr 0 rfl, c.ldStr 1 rfl, c.ldStr 2 rfl, c.ldStr 3 rfl, c.ldStr 4 rfl, c.ldSet, c.ldB 19 rfl, c.ldT 20 rfl rfl, c.ld32 22 rfl, c.ld64 23 rfl, c.ld32 24 rfl, c.ldI 25 rfl, c.ldI 26 rfl, c.ldI 27 rfl, c.ldRow 28 rfl, c.ld64 29 rfl, c.ld64 30 rfl, c.ld64 31 rfl, c.ld32 32 rfl, c.ld32 33 rfl, c.ld32 34 rfl, c.ld32 35 rfl , Int.reduceBEq, Int.reduceBNe, Int.reduceGT, Int.reduceGE, Nat.reduceAdd])
  all_goals simp only [aRes_none Try.results45]
  all_goals refine ⟨trivial, ?_⟩
  all_goals replace c := c.drop
  all_goals (unfold wMore; repeat' (first | exact c | (exfalso; first | omega | contradiction) | split))
set_option maxHeartbeats 8000000 in
theorem oMore11_0 (ht3 : ¬ a.type = 3) (ht4 : ¬ a.type = 4) (ht6 : ¬ a.type = 6) (ht7 : ¬ a.type = 7) (hok : a.OK) (sm : Sm 6 x) (c : OW Z H0 h ko kw x L) :
    Cl Try.prog 45 [pt ko 0, .int .i64 11, .agg a.cells.toArray] h fun v h' => v = .tuple #[] ∧ OW Z H0 h' ko kw (wMore 11 a x) L := by
  refine Cl.enter Try.func45 rfl _ Try.ntmps45 (by simp) ?_
  intro env hl ha
  have h0 : sl env 0 = pt ko 0 := ha 0 (by simp)
  have h1 : sl env 1 = .int .i64 11 := ha 1 (by simp)
  have h2 : sl env 2 = .agg a.cells.toArray := ha 2 (by simp)
  clear ha
  have ha_g1 := hok.g1
  have ha_g2 := hok.g2
  have ha_access := hok.access
  have ha_count := hok.count
  have ha_dirCount := hok.dirCount
  have ha_maxCount := hok.maxCount
  have ha_spec1 := hok.spec1
  have ha_spec2 := hok.spec2
  have hb_file := Nat.le_trans hok.file (show 30000 ≤ 40000 by decide)
  have hc_file := hok.file
  have hb_to := Nat.le_trans hok.to (show 30000 ≤ 40000 by decide)
  have hc_to := hok.to
  have hb_name := Nat.le_trans hok.name (show 30000 ≤ 40000 by decide)
  have hc_name := hok.name
  have hb_toName := Nat.le_trans hok.toName (show 30000 ≤ 40000 by decide)
  have hc_toName := hok.toName
  have hb_path := Nat.le_trans hok.path (show 30000 ≤ 40000 by decide)
  have hc_path := hok.path
  have hb_data := Nat.le_trans hok.data (show 30000 ≤ 40000 by decide)
  have hc_data := hok.data
  have xb : aBox h 30 (.agg a.cells.toArray) = some (pt h.next 0, h.push (.cells a.cells TA false)) := by
    have := a.one hok
    simp [aBox, aNew, Value.cells, this]
  replace c := c.alloc a.cells TA
  generalize h.push (.cells a.cells TA false) = hq at xb c
  generalize h.next = kt at xb c
  have d3 : (a.type == 3) = false := by simpa using ht3
  have d4 : (a.type == 4) = false := by simpa using ht4
  have d6 : (a.type == 6) = false := by simpa using ht6
  have d7 : (a.type == 7) = false := by simpa using ht7
  repeat' (first | (with_reducible refine Wp.st ?_; simp only [wS]) | with_reducible refine Wp.drawS (by decide +kernel) ?_ | (refine Wp.cond_true ?_ ?_; focus ((simp (disch := (first | (simp only [List.length_set, hl]; omega) | omega | rfl)) only [sL, aEval_tmp]); done)) | (refine Wp.cond_false ?_ ?_; focus ((simp (disch := (first | (simp only [List.length_set, hl]; omega) | omega | rfl)) only [sL, aEval_tmp]); done)) | ((with_reducible apply Cl.mono (oU32 c ?g0 ?g1)); (case g0 => (assumption)); (case g1 => ((refine Sm.s9 ?_; (repeat (with_reducible first | refine sm_text (by assumption) ?_ | refine sm_u32 ?_ | refine sm_u64 ?_ | refine sm_num ?_ | refine sm_set ?_ | refine sm_time ?_ | refine sm_bool ?_)); exact Sm.le sm (by decide)))); intro v ha q; (try rw [q.1]); replace c := q.2; clear q) | ((with_reducible apply Cl.mono (oU64 c ?g0)); (case g0 => ((refine Sm.s9 ?_; (repeat (with_reducible first | refine sm_text (by assumption) ?_ | refine sm_u32 ?_ | refine sm_u64 ?_ | refine sm_num ?_ | refine sm_set ?_ | refine sm_time ?_ | refine sm_bool ?_)); exact Sm.le sm (by decide)))); intro v ha q; (try rw [q.1]); replace c := q.2; clear q) | ((with_reducible apply Cl.mono (oBool c ?g0)); (case g0 => ((refine Sm.s9 ?_; (repeat (with_reducible first | refine sm_text (by assumption) ?_ | refine sm_u32 ?_ | refine sm_u64 ?_ | refine sm_num ?_ | refine sm_set ?_ | refine sm_time ?_ | refine sm_bool ?_)); exact Sm.le sm (by decide)))); intro v ha q; (try rw [q.1]); replace c := q.2; clear q) | ((with_reducible apply Cl.mono (oUpto c ?g0)); (case g0 => ((refine Sm.s9 ?_; (repeat (with_reducible first | refine sm_text (by assumption) ?_ | refine sm_u32 ?_ | refine sm_u64 ?_ | refine sm_num ?_ | refine sm_set ?_ | refine sm_time ?_ | refine sm_bool ?_)); exact Sm.le sm (by decide)))); intro v ha q; (try rw [q.1]); replace c := q.2; clear q) | ((with_reducible apply Cl.mono (oTime c ?g0 ?g1 ?g2)); (case g0 => (assumption)); (case g1 => (assumption)); (case g2 => ((skip; (repeat (with_reducible first | refine sm_text (by assumption) ?_ | refine sm_u32 ?_ | refine sm_u64 ?_ | refine sm_num ?_ | refine sm_set ?_ | refine sm_time ?_ | refine sm_bool ?_)); exact Sm.le sm (by decide)))); intro v ha q; (try rw [q.1]); replace c := q.2; clear q) | ((with_reducible apply Cl.mono (oText c ?g0 ?g1)); (case g0 => (assumption)); (case g1 => ((refine Sm.s9 ?_; (repeat (with_reducible first | refine sm_text (by assumption) ?_ | refine sm_u32 ?_ | refine sm_u64 ?_ | refine sm_num ?_ | refine sm_set ?_ | refine sm_time ?_ | refine sm_bool ?_)); exact Sm.le sm (by decide)))); intro v ha q; (try rw [q.1]); replace c := q.2; clear q) | ((with_reducible apply Cl.mono (oSet hok.set c ?g0)); (case g0 => ((skip; (repeat (with_reducible first | refine sm_text (by assumption) ?_ | refine sm_u32 ?_ | refine sm_u64 ?_ | refine sm_num ?_ | refine sm_set ?_ | refine sm_time ?_ | refine sm_bool ?_)); exact Sm.le sm (by decide)))); intro v ha q; (try rw [q.1]); replace c := q.2; clear q) | simp (disch := (first | (simp only [List.length_set, hl]; omega) | omega | rfl)) only [walkA, walkB, bne_self_eq_false, beq_self_eq_true, Option.map_some, Option.map_none, reduceIte, decide_true, decide_false, Int.reduceLT, Int.reduceLE, Int.reduceMul, Int.reduceAdd, Int.reduceSub, h0, h1, h2, xb, d3, d4, d6, d7, faO0, faA0, faA1, faA2, faA3, faA4, faA5, faA6, faA7, faA8, faA9, faA10, faA11, faA12, faA13, faA14, faA15, faA16, faA17, faA18, faA19, faA20, faA21, c.lr, c.ldStr 0 rfl, c.ldStr 1 rfl, c.ldStr 2 rfl, c.ldStr 3 rfl, c.ldStr 4 rfl, c.ldSet, c.ldB 19 rfl, c.ldT 20 rfl rfl, c.ld32 22 rfl, c.ld64 23 rfl, c.ld32 24 rfl, c.ldI 25 rfl, c.ldI 26 rfl, c.ldI 27 rfl, c.ldRow 28 rfl, c.ld64 29 rfl, c.ld64 30 rfl, c.ld64 31 rfl, c.ld32 32 rfl, c.ld32 33 rfl, c.ld32 34 rfl, c.ld32 35 rfl , Int.reduceBEq, Int.reduceBNe, Int.reduceGT, Int.reduceGE, Nat.reduceAdd])
  all_goals simp only [aRes_none Try.results45]
  all_goals refine ⟨trivial, ?_⟩
  all_goals replace c := c.drop
  all_goals (unfold wMore; repeat' (first | exact c | (exfalso; first | omega | contradiction) | split))
theorem oMore {p : Int} (hp : p = 0 ∨ p = 1 ∨ p = 3 ∨ p = 5 ∨ p = 8 ∨ p = 9 ∨ p = 10 ∨ p = 11 ∨ p = 12 ∨ p = 13 ∨ p = 14 ∨ p = 15 ∨ p = 16 ∨ p = 17 ∨ p = 18 ∨ p = 19 ∨ p = 20 ∨ p = 100 ∨ p = 102 ∨ p = 104 ∨ p = 105) (hok : a.OK) (sm : Sm 6 x) (c : OW Z H0 h ko kw x L) :
    Cl Try.prog 45 [pt ko 0, .int .i64 p, .agg a.cells.toArray] h fun v h' => v = .tuple #[] ∧ OW Z H0 h' ko kw (wMore p a x) L := by
  by_cases e : p = 11
  · subst e
    by_cases h3 : a.type = 3
    · exact oMore11_3 h3 hok sm c
    by_cases h4 : a.type = 4
    · exact oMore11_4 h4 hok sm c
    by_cases h6 : a.type = 6
    · exact oMore11_6 h6 hok sm c
    by_cases h7 : a.type = 7
    · exact oMore11_7 h7 hok sm c
    exact oMore11_0 h3 h4 h6 h7 hok sm c
  · exact oMore' (by omega) hok sm c
end
end Go.Proofs.Ytanknjpcgceccaa

namespace Go.Proofs.Ytanknjpcgceccaa
open Go Go.AM
set_option linter.unusedSimpArgs false
set_option maxRecDepth 100000
attribute [local irreducible] WOps WV WH WSt WNil WPick WGd
theorem hN : hasName 0 = false ∧ hasName 1 = false ∧ hasName 2 = false ∧ hasName 3 = true ∧ hasName 4 = false ∧ hasName 5 = false ∧ hasName 6 = false ∧ hasName 7 = false ∧ hasName 8 = true ∧ hasName 9 = true ∧ hasName 10 = true ∧ hasName 11 = true ∧ hasName 12 = true ∧ hasName 13 = true ∧ hasName 14 = true ∧ hasName 15 = false ∧ hasName 16 = false ∧ hasName 17 = false ∧ hasName 18 = false ∧ hasName 19 = false ∧ hasName 20 = false ∧ hasName 21 = false ∧ hasName 100 = false ∧ hasName 101 = false ∧ hasName 102 = false ∧ hasName 103 = false ∧ hasName 104 = false ∧ hasName 105 = false := by decide
theorem bOut {a : Addr} : aBuild Try.prog 93 [(0, .pointer (some a))] = some (.agg #[.pointer (some a), .bool false]) := by kernel_rfl
theorem xOut {h : Heap} {a : Addr} : aBox h 93 (.agg #[.pointer (some a), .bool false]) = some (pt h.next 0, h.push (.cells [.pointer (some a), .bool false] TO false)) := by kernel_rfl
section
variable {Z : Nat → Prop} {H0 h h' : Heap} {ko kw : Nat} {x : WS} {L L' : List Blk} {kt : Nat} {T : TypeId} {a : AR}
theorem OW.ldArgs (c : OW Z H0 h ko kw x ((kt, a.cells, T) :: L)) : aLoad Try.prog h 30 (pt kt 0) = some (.agg a.cells.toArray) := by
  rw [c.ldS Try.underlying30 iArgs 0 (by show 0 + 36 ≤ _; simp [AR.cells, SA.cells])]
  rfl
theorem OW.eq {y : WS} (c : OW Z H0 h ko kw x L) (e : x = y) : OW Z H0 h ko kw y L := e ▸ c
theorem OW.new {cs : List Value} (s : St Z H0 h ((kt, cs, T) :: L)) :
    OW Z H0 ((h.push (.cells [.slice none 0 0] TRW false)).push (.cells [pt h.next 0, .bool false] TO false)) (h.push (.cells [.slice none 0 0] TRW false)).next h.next ⟨[], false⟩ ((kt, cs, T) :: L) :=
  ⟨.slice none 0 0, WB.alloc (⟨s.push _ _, .inl ⟨rfl, rfl⟩, fun j hj => (nilBuf j hj).elim, rfl⟩ : WB Z H0 _ h.next TRW (.slice none 0 0) [] ((kt, cs, T) :: L)) _ _⟩
theorem oTextD {s0 : ByteArray} (e : a.data = strB s0) (c : OW Z H0 h ko kw x L) (hs0 : a.data.length ≤ 40000) (hsz : small9 x) : Cl Try.prog 38 [pt ko 0, .string s0, .int .i64 8192] h fun v h' => v = .tuple #[] ∧ OW Z H0 h' ko kw (wRow 8192 a.data x) L := by
  have hl : a.data.length = s0.size := by rw [e, strB_len]
  have : wRow 8192 a.data x = wText 8192 s0 x := by
    unfold wRow wText
    rw [e, strB_len]
  rw [this]
  exact oText c (by omega) hsz
end
set_option maxHeartbeats 16000000 in
theorem writeArgsX_am (p : Int) (a : AR) (hok : a.OK) (s0 : ByteArray) (hds : a.data = strB s0) (h : Heap) (r : Row h a.dv a.data) :
    Cl Try.prog 13 [.int .i64 p, .agg a.cells.toArray] h fun v h' => ∃ bv, v = .tuple #[bv, .int .i64 (wrArgs p a).2] ∧ OutV h h' bv (wrArgs p a).1 := by
  refine Cl.enter Try.func13 rfl _ Try.ntmps13 (by simp) ?_
  intro env hl ha
  have h0 : sl env 0 = .int .i64 p := ha 0 (by simp)
  have h1 : sl env 1 = .agg a.cells.toArray := ha 1 (by simp)
  clear ha
  have ha_g1 := hok.g1
  have ha_g2 := hok.g2
  have ha_access := hok.access
  have ha_count := hok.count
  have ha_dirCount := hok.dirCount
  have ha_maxCount := hok.maxCount
  have ha_spec1 := hok.spec1
  have ha_spec2 := hok.spec2
  have hb_file := Nat.le_trans hok.file (show 30000 ≤ 40000 by decide)
  have hc_file := hok.file
  have hb_to := Nat.le_trans hok.to (show 30000 ≤ 40000 by decide)
  have hc_to := hok.to
  have hb_name := Nat.le_trans hok.name (show 30000 ≤ 40000 by decide)
  have hc_name := hok.name
  have hb_toName := Nat.le_trans hok.toName (show 30000 ≤ 40000 by decide)
  have hc_toName := hok.toName
  have hb_path := Nat.le_trans hok.path (show 30000 ≤ 40000 by decide)
  have hc_path := hok.path
  have hb_data := Nat.le_trans hok.data (show 30000 ≤ 40000 by decide)
  have hc_data := hok.data
  have st0 := (St.nil (fun j => j < h.next) h (fun _ x => x)).push a.cells TA
  have xb : aBox h 30 (.agg a.cells.toArray) = some (pt h.next 0, h.push (.cells a.cells TA false)) := by
    have := a.one hok
    simp [aBox, aNew, Value.cells, this]
  have keep : ∀ {h5 : Heap} {L : List Blk}, St (fun j => j < h.next) h h5 L → Same h h5 noS := fun q => ⟨q.nx, fun j e he _ => q.stay j e he (Heap.get_lt he)⟩
  repeat (first | (with_reducible refine Wp.st ?_; simp only [wS]) | with_reducible refine Wp.drawS (by decide +kernel) ?_ | simp (disch := (first | (simp only [List.length_set, hl]; omega) | omega | rfl)) only [walkA, walkB, bne_self_eq_false, beq_self_eq_true, Option.map_some, Option.map_none, reduceIte, decide_true, decide_false, Int.reduceLT, Int.reduceLE, Int.reduceMul, Int.reduceAdd, Int.reduceSub, h0, h1, xb])
  refine Cl.pure (thereX_am p _) ?_
  cases hp : there p with
  | false =>
    have e : wrArgs p a = ([], 36) := by unfold wrArgs; rw [if_neg (by simp [hp])]
    repeat (first | (with_reducible refine Wp.st ?_; simp only [wS]) | with_reducible refine Wp.drawS (by decide +kernel) ?_ | simp (disch := (first | (simp only [List.length_set, hl]; omega) | omega | rfl)) only [walkA, walkB, bne_self_eq_false, beq_self_eq_true, Option.map_some, Option.map_none, reduceIte, decide_true, decide_false, Int.reduceLT, Int.reduceLE, Int.reduceMul, Int.reduceAdd, Int.reduceSub, h0, h1])
    refine Wp.cond_true (by first | ((simp (disch := (first | (simp only [List.length_set, hl]; omega) | omega | rfl)) only [sL, aEval_tmp]); done) | ((simp (disch := (first | (simp only [List.length_set, hl]; omega) | omega | rfl)) only [sL, aEval_tmp]); rfl)) ?_
    repeat (first | (with_reducible refine Wp.st ?_; simp only [wS]) | with_reducible refine Wp.drawS (by decide +kernel) ?_ | simp (disch := (first | (simp only [List.length_set, hl]; omega) | omega | rfl)) only [walkA, walkB, bne_self_eq_false, beq_self_eq_true, Option.map_some, Option.map_none, reduceIte, decide_true, decide_false, Int.reduceLT, Int.reduceLE, Int.reduceMul, Int.reduceAdd, Int.reduceSub, h0, h1])
    simp (disch := (first | (simp only [List.length_set, hl]; omega) | omega | rfl)) only [aRes_two Try.results13, sL]
    rw [e]
    exact ⟨_, rfl, .inl ⟨rfl, rfl⟩, keep st0, fun j hj => (nilBuf j hj).elim, rfl⟩
  | true =>
    have e : wrArgs p a = if (wArgs p a ⟨[], false⟩).bad = true then ([], 33) else ((wArgs p a ⟨[], false⟩).bs, 0) := by unfold wrArgs; rw [if_pos hp]
    rw [e]
    have c := OW.new st0
    generalize h.push (.cells a.cells TA false) = h2 at c
    have sm : Sm 0 ⟨[], false⟩ := by unfold Sm; simp
    have xo := xOut (h := h2.push (.cells [.slice none 0 0] TRW false)) (a := ⟨h2.next, 0, none⟩)
    rw [hds] at r
    have hz := row_lt r
    repeat (first | (with_reducible refine Wp.st ?_; simp only [wS]) | with_reducible refine Wp.drawS (by decide +kernel) ?_ | simp (disch := (first | (simp only [List.length_set, hl]; omega) | omega | rfl)) only [walkA, walkB, bne_self_eq_false, beq_self_eq_true, Option.map_some, Option.map_none, reduceIte, decide_true, decide_false, Int.reduceLT, Int.reduceLE, Int.reduceMul, Int.reduceAdd, Int.reduceSub, h0, h1])
    refine Wp.cond_false (by first | ((simp (disch := (first | (simp only [List.length_set, hl]; omega) | omega | rfl)) only [sL, aEval_tmp]); done) | ((simp (disch := (first | (simp only [List.length_set, hl]; omega) | omega | rfl)) only [sL, aEval_tmp]); rfl)) ?_
    generalize hX : wArgs p a ⟨[], false⟩ = X
    clear e st0
    rcases there_cases hp with e | e | e | e | e | e | e | e | e | e | e | e | e | e | e | e | e | e | e | e | e | e | e | e | e | e | e | e
    all_goals rw [e] at h0
    all_goals repeat' (first | (with_reducible refine Wp.st ?_; simp only [wS]) | with_reducible refine Wp.drawS (by decide +kernel) ?_ | (refine Wp.cond_true ?_ ?_; focus ((simp (disch := (first | (simp only [List.length_set, hl]; omega) | omega | rfl)) only [sL, aEval_tmp]); done)) | (refine Wp.cond_false ?_ ?_; focus ((simp (disch := (first | (simp only [List.length_set, hl]; omega) | omega | rfl)) only [sL, aEval_tmp]); done)) | (refine Cl.pure (namedX_am _ _) ?_) | ((with_reducible apply Cl.mono (oMore (a := a) ?g0 hok ?g1 c)); (case g0 => (omega)); (case g1 => ((skip; (repeat (with_reducible first | refine sm_text (by assumption) ?_ | refine sm_u32 ?_ | refine sm_u64 ?_ | refine sm_num ?_ | refine sm_set ?_ | refine sm_time ?_ | refine sm_bool ?_)); exact Sm.le sm (by decide)))); intro v ha q; (try rw [q.1]); replace c := q.2; clear q) | ((with_reducible apply Cl.mono (oTextD hds c ?g0 ?g1)); (case g0 => (assumption)); (case g1 => ((refine Sm.s9 ?_; (repeat (with_reducible first | refine sm_text (by assumption) ?_ | refine sm_u32 ?_ | refine sm_u64 ?_ | refine sm_num ?_ | refine sm_set ?_ | refine sm_time ?_ | refine sm_bool ?_)); exact Sm.le sm (by decide)))); intro v ha q; (try rw [q.1]); replace c := q.2; clear q) | ((with_reducible apply Cl.mono (oU32 c ?g0 ?g1)); (case g0 => (assumption)); (case g1 => ((refine Sm.s9 ?_; (repeat (with_reducible first | refine sm_text (by assumption) ?_ | refine sm_u32 ?_ | refine sm_u64 ?_ | refine sm_num ?_ | refine sm_set ?_ | refine sm_time ?_ | refine sm_bool ?_)); exact Sm.le sm (by decide)))); intro v ha q; (try rw [q.1]); replace c := q.2; clear q) | ((with_reducible apply Cl.mono (oU64 c ?g0)); (case g0 => ((refine Sm.s9 ?_; (repeat (with_reducible first | refine sm_text (by assumption) ?_ | refine sm_u32 ?_ | refine sm_u64 ?_ | refine sm_num ?_ | refine sm_set ?_ | refine sm_time ?_ | refine sm_bool ?_)); exact Sm.le sm (by decide)))); intro v ha q; (try rw [q.1]); replace c := q.2; clear q) | ((with_reducible apply Cl.mono (oBool c ?g0)); (case g0 => ((refine Sm.s9 ?_; (repeat (with_reducible first | refine sm_text (by assumption) ?_ | refine sm_u32 ?_ | refine sm_u64 ?_ | refine sm_num ?_ | refine sm_set ?_ | refine sm_time ?_ | refine sm_bool ?_)); exact Sm.le sm (by decide)))); intro v ha q; (try rw [q.1]); replace c := q.2; clear q) | ((with_reducible apply Cl.mono (oUpto c ?g0)); (case g0 => ((refine Sm.s9 ?_; (repeat (with_reducible first | refine sm_text (by assumption) ?_ | refine sm_u32 ?_ | refine sm_u64 ?_ | refine sm_num ?_ | refine sm_set ?_ | refine sm_time ?_ | refine sm_bool ?_)); exact Sm.le sm (by decide)))); intro v ha q; (try rw [q.1]); replace c := q.2; clear q) | ((with_reducible apply Cl.mono (oTime c ?g0 ?g1 ?g2)); (case g0 => (assumption)); (case g1 => (assumption)); (case g2 => ((skip; (repeat (with_reducible first | refine sm_text (by assumption) ?_ | refine sm_u32 ?_ | refine sm_u64 ?_ | refine sm_num ?_ | refine sm_set ?_ | refine sm_time ?_ | refine sm_bool ?_)); exact Sm.le sm (by decide)))); intro v ha q; (try rw [q.1]); replace c := q.2; clear q) | ((with_reducible apply Cl.mono (oText c ?g0 ?g1)); (case g0 => (assumption)); (case g1 => ((refine Sm.s9 ?_; (repeat (with_reducible first | refine sm_text (by assumption) ?_ | refine sm_u32 ?_ | refine sm_u64 ?_ | refine sm_num ?_ | refine sm_set ?_ | refine sm_time ?_ | refine sm_bool ?_)); exact Sm.le sm (by decide)))); intro v ha q; (try rw [q.1]); replace c := q.2; clear q) | ((with_reducible apply Cl.mono (oSet hok.set c ?g0)); (case g0 => ((skip; (repeat (with_reducible first | refine sm_text (by assumption) ?_ | refine sm_u32 ?_ | refine sm_u64 ?_ | refine sm_num ?_ | refine sm_set ?_ | refine sm_time ?_ | refine sm_bool ?_)); exact Sm.le sm (by decide)))); intro v ha q; (try rw [q.1]); replace c := q.2; clear q) | simp (disch := (first | (simp only [List.length_set, hl]; omega) | omega | rfl)) only [walkA, walkB, bne_self_eq_false, beq_self_eq_true, Option.map_some, Option.map_none, reduceIte, decide_true, decide_false, Int.reduceLT, Int.reduceLE, Int.reduceMul, Int.reduceAdd, Int.reduceSub, h0, h1, build29, box_nil, bOut, xo, faO0, faA0, faA1, faA2, faA3, faA4, faA5, faA6, faA7, faA8, faA9, faA10, faA11, faA12, faA13, faA14, faA15, faA16, faA17, faA18, faA19, faA20, faA21, c.lr, c.ldStr 0 rfl, c.ldStr 1 rfl, c.ldStr 2 rfl, c.ldStr 3 rfl, c.ldStr 4 rfl, c.ldSet, c.ldArgs, c.cvData r hz, c.ldB 19 rfl, c.ldT 20 rfl rfl, c.ld32 22 rfl, c.ld64 23 rfl, c.ld32 24 rfl, c.ldI 25 rfl, c.ldI 26 rfl, c.ldI 27 rfl, c.ldRow 28 rfl, c.ld64 29 rfl, c.ld64 30 rfl, c.ld64 31 rfl, c.ld32 32 rfl, c.ld32 33 rfl, c.ld32 34 rfl, c.ld32 35 rfl, hN.1, hN.2.1, hN.2.2.1, hN.2.2.2.1, hN.2.2.2.2.1, hN.2.2.2.2.2.1, hN.2.2.2.2.2.2.1, hN.2.2.2.2.2.2.2.1, hN.2.2.2.2.2.2.2.2.1, hN.2.2.2.2.2.2.2.2.2.1, hN.2.2.2.2.2.2.2.2.2.2.1, hN.2.2.2.2.2.2.2.2.2.2.2.1, hN.2.2.2.2.2.2.2.2.2.2.2.2.1, hN.2.2.2.2.2.2.2.2.2.2.2.2.2.1, hN.2.2.2.2.2.2.2.2.2.2.2.2.2.2.1, hN.2.2.2.2.2.2.2.2.2.2.2.2.2.2.2.1, hN.2.2.2.2.2.2.2.2.2.2.2.2.2.2.2.2.1, hN.2.2.2.2.2.2.2.2.2.2.2.2.2.2.2.2.2.1, hN.2.2.2.2.2.2.2.2.2.2.2.2.2.2.2.2.2.2.1, hN.2.2.2.2.2.2.2.2.2.2.2.2.2.2.2.2.2.2.2.1, hN.2.2.2.2.2.2.2.2.2.2.2.2.2.2.2.2.2.2.2.2.1, hN.2.2.2.2.2.2.2.2.2.2.2.2.2.2.2.2.2.2.2.2.2.1, hN.2.2.2.2.2.2.2.2.2.2.2.2.2.2.2.2.2.2.2.2.2.2.1, hN.2.2.2.2.2.2.2.2.2.2.2.2.2.2.2.2.2.2.2.2.2.2.2.1, hN.2.2.2.2.2.2.2.2.2.2.2.2.2.2.2.2.2.2.2.2.2.2.2.2.1, hN.2.2.2.2.2.2.2.2.2.2.2.2.2.2.2.2.2.2.2.2.2.2.2.2.2.1, hN.2.2.2.2.2.2.2.2.2.2.2.2.2.2.2.2.2.2.2.2.2.2.2.2.2.2.1, hN.2.2.2.2.2.2.2.2.2.2.2.2.2.2.2.2.2.2.2.2.2.2.2.2.2.2.2 , Int.reduceBEq, Int.reduceBNe, Int.reduceGT, Int.reduceGE, Nat.reduceAdd] | ((refine Wp.cond' ⟨_, by (simp (disch := (first | (simp only [List.length_set, hl]; omega) | omega | rfl)) only [sl_eq, sl_ne, aEval_tmp]; rfl), ?_, ?_⟩ <;> intro hb <;> (try simp only [beq_iff_eq, bne_iff_ne, ne_eq, decide_eq_true_eq, decide_eq_false_iff_not, beq_eq_false_iff_ne, bne_eq_false_iff_eq, Bool.not_eq_true', Bool.not_eq_false'] at hb) <;> (try (exfalso; omega)))))
    all_goals replace c := OW.eq (y := X) c (by rw [← hX, e]; first | (simp [wArgs, wMore, wNamed]; done) | (simp [wArgs, hb, wTime]; done))
    all_goals obtain ⟨wv, c⟩ := c
    all_goals have lb := OW.lb ⟨wv, c⟩
    all_goals have lr := OW.lr ⟨wv, c⟩
    all_goals have lw := loadW c.wr.1
    all_goals have k4 := keep c.st
    all_goals cases hb : X.bad
    all_goals rw [hb] at lb
    all_goals (try simp only [Bool.false_eq_true, if_false, if_true])
    all_goals repeat' (first | (with_reducible refine Wp.st ?_; simp only [wS]) | with_reducible refine Wp.drawS (by decide +kernel) ?_ | (refine Wp.cond_true ?_ ?_; focus ((simp (disch := (first | (simp only [List.length_set, hl]; omega) | omega | rfl)) only [sL, aEval_tmp]); done)) | (refine Wp.cond_false ?_ ?_; focus ((simp (disch := (first | (simp only [List.length_set, hl]; omega) | omega | rfl)) only [sL, aEval_tmp]); done)) | simp (disch := (first | (simp only [List.length_set, hl]; omega) | omega | rfl)) only [walkA, walkB, bne_self_eq_false, beq_self_eq_true, Option.map_some, Option.map_none, reduceIte, decide_true, decide_false, Int.reduceLT, Int.reduceLE, Int.reduceMul, Int.reduceAdd, Int.reduceSub, h0, h1, faO0, faO1, field29, lb, lr, lw , Int.reduceBEq, Int.reduceBNe, Int.reduceGT, Int.reduceGE, Nat.reduceAdd])
    all_goals simp (disch := (first | (simp only [List.length_set, hl]; omega) | omega | rfl)) only [aRes_two Try.results13, sL]
    all_goals first | exact ⟨_, rfl, .inl ⟨rfl, rfl⟩, k4, fun j hj => (nilBuf j hj).elim, rfl⟩ | exact ⟨_, rfl, c.buf, k4, fun j hj => Nat.not_lt.1 (c.off j hj).2.1, c.one⟩
end Go.Proofs.Ytanknjpcgceccaa

namespace Go.Proofs.Ytanknjpcgceccaa
open Go Go.AM
set_option linter.unusedSimpArgs false
set_option maxRecDepth 100000
attribute [local irreducible] WOps WV WH WSt WNil WPick WGd
theorem _root_.Go.AM.Same.tr {h h1 h2 : Heap} (a : Same h h1 noS) (b : Same h1 h2 noS) : Same h h2 noS := a.trans b (fun _ x => x) (fun _ _ x => x)
theorem _root_.Go.AM.Same.got {h h1 : Heap} {k : Nat} {e : Ent} (a : Same h h1 noS) (g : h.get k = some e) : h1.get k = some e := a.2 _ _ g (fun x => x)
theorem _root_.Go.AM.Row.on {h h1 : Heap} {v : Value} {vs : List Value} (r : Row h v vs) (a : Same h h1 noS) : Row h1 v vs := r.same a (fun _ _ _ _ _ x => x)
theorem _root_.Go.AM.RowX.on {h h1 : Heap} {e : TypeId} {v : Value} {vs : List Value} (r : RowX h e v vs) (a : Same h h1 noS) : RowX h1 e v vs := r.same a (fun _ _ _ _ _ x => x)
theorem laidArgs {h : Heap} {vs : List Value} (hl : vs.length = 36) (h1 : One vs) : ∃ h2, aStore Try.prog (h.push (.cells argsZ TA false)) 30 (pt h.next 0) (.agg vs.toArray) = some h2 ∧ h2.get h.next = some (.cells vs TA false) ∧ Same h h2 noS := by
  have s0 := (St.nil (fun j => j < h.next) h (fun _ x => x)).push argsZ TA
  have p := s0.stS (P := Try.prog) (t := 30) iArgs rfl (by rw [hl]; rfl) h1
  exact ⟨_, p.1, p.2.hd, p.2.nx, fun j e he _ => p.2.stay j e he (Heap.get_lt he)⟩
theorem ldArgs {h : Heap} {k : Nat} {vs : List Value} (hg : h.get k = some (.cells vs TA false)) (hl : vs.length = 36) : aLoad Try.prog h 30 (pt k 0) = some (.agg vs.toArray) :=
  ldAgg hg Try.underlying30 iArgs (by show 0 + 36 ≤ _; omega) (by show (vs.drop 0).take 36 = vs; rw [List.drop_zero, List.take_of_length_le (by omega)])
theorem AR.len (a : AR) : a.cells.length = 36 := by simp [AR.cells, SA.cells]
theorem SA.eq_refl (s : SA) : s.eq s = true := by simp [SA.eq, eqT]
theorem AR.eq_dv (a : AR) (d1 d2 : Value) : AR.eq { a with dv := d1 } { a with dv := d2 } = true := by simp [AR.eq, eqT, SA.eq_refl]
theorem appended {h : Heap} {bv : Value} {bs : List Value} (r : Row h bv bs) (h1 : bs.all Value.oneCell' = true) (hl : bs.length ≤ 1000000000) :
    ∃ v h2, aAppend Try.prog (h.push (.cells [] 5 false)) 22 22 (.slice (some ⟨h.next, 0, none⟩) 0 0) bv = some (v, h2) ∧ Buf h2 5 v bs ∧ Same h h2 noS ∧ ∀ j, bufBlk v j → h.next ≤ j := by
  have hs0 : Same h (h.push (.cells [] 5 false)) noS := Same.push _ _ _
  have hb2 := r.on hs0
  have hbuf : Buf (h.push (.cells [] 5 false)) 5 (.slice (some ⟨h.next, 0, none⟩) 0 0) [] := .inr (.inl ⟨rfl, h.next, [], 5, false, rfl, Heap.get_push_new⟩)
  obtain ⟨v1, hh1, ha1, hbv, hs1, hf1⟩ := Buf.append (P := Try.prog) hbuf Try.underlying22 i5 rfl rfl rfl rfl (hb2.src Try.underlying22 (by simp) rfl) rfl h1 (small_of (by simp; omega)) (small_of (by simp [Try.t5]; omega))
  have hfr : ∀ j, bufBlk (.slice (some ⟨h.next, 0, none⟩) 0 0) j → h.next ≤ j := by
    rintro j ⟨o, m, d, hh⟩
    injection hh with hh; injection hh with hh; injection hh with hh
    omega
  exact ⟨v1, hh1, ha1, by simpa using hbv, hs0.trans hs1 (fun _ x => x) (fun b hb x => absurd (hfr b x) (by omega)), fun b x => (hf1 b x).elim (hfr b) (fun y => Nat.le_trans (by simp) y)⟩
theorem u8_one (bs : List Int) : (bs.map (Value.int .u8)).all Value.oneCell' = true := List.all_eq_true.2 fun x hx => by
  obtain ⟨b, _, rfl⟩ := List.mem_map.1 hx
  rfl
theorem isB_app {l m : List Value} (h1 : isB l) (h2 : isB m) : isB (l ++ m) := h1.append h2
theorem isB_pad (n : Nat) : isB (padB n) := isB.noughts _
theorem isB_be (x : Int) (n : Nat) : isB (beTo x n) := isB.beTo x n
def IB (x : WS) : Prop := isB x.bs
section
variable {x : WS}
theorem ib_u32 {v : Int} (h : IB x) : IB (wU32 v x) := isB_app h (isB_be _ _)
theorem ib_u64 {v : Int} (h : IB x) : IB (wU64 v x) := isB_app h (isB_be _ _)
theorem ib_bool {b : Bool} (h : IB x) : IB (wBool b x) := isB_app h (isB_be _ _)
theorem ib_num {a b v : Int} (h : IB x) : IB (wNum a b v x) := isB_app h (isB_be _ _)
theorem ib_text {m : Int} {s : ByteArray} (h : IB x) : IB (wText m s x) := isB_app h (isB_app (isB_be _ _) (isB_app (isB_str s) (isB_pad _)))
theorem ib_row {m : Int} {l : List Value} (hl : isB l) (h : IB x) : IB (wRow m l x) := isB_app h (isB_app (isB_be _ _) (isB_app hl (isB_pad _)))
theorem ib_if {b : Bool} {f : WS → WS} (hf : ∀ {y : WS}, IB y → IB (f y)) (h : IB x) : IB (wIf b f x) := by
  unfold wIf; split
  · exact hf (ib_bool h)
  · exact ib_bool h
theorem ib_how {hw a b : Int} (h : IB x) : IB (wHow hw a b x) := by
  unfold wHow; split
  · exact ib_u32 (ib_u32 (ib_num h))
  · exact ib_num h
theorem ib_set {s : SA} (h : IB x) : IB (wSet s x) := by
  rw [wSet_eq]
  exact ib_how (ib_how (ib_if ib_u64 (ib_if ib_u32 (ib_if ib_u32 (ib_if ib_num h)))))
theorem ib_named {p : Int} {a : AR} (h : IB x) : IB (wNamed p a x) := by
  unfold wNamed
  repeat' split
  all_goals (repeat (with_reducible first | exact h | refine ib_text ?_ | refine ib_u32 ?_ | refine ib_u64 ?_ | refine ib_num ?_ | refine ib_bool ?_ | refine ib_set ?_))
theorem ib_args {p : Int} {a : AR} (hd : isB a.data) (h : IB x) : IB (wArgs p a x) := by
  unfold wArgs
  repeat' split
  all_goals (repeat (with_reducible first | exact h | refine ib_named ?_ | refine ib_row hd ?_ | refine ib_text ?_ | refine ib_u32 ?_ | refine ib_u64 ?_ | refine ib_num ?_ | refine ib_bool ?_ | refine ib_set ?_))
end
theorem wrArgs_isB (p : Int) (a : AR) (hd : ∃ s, a.data = strB s) : isB (wrArgs p a).1 := by
  obtain ⟨s, e⟩ := hd
  unfold wrArgs
  split
  · split
    · exact isB.nil
    · exact ib_args (by rw [e]; exact isB_str s) (x := ⟨[], false⟩) isB.nil
  · exact isB.nil
set_option maxHeartbeats 8000000 in
theorem nfsxArgs_am (p : Int) (bv : Value) (bs : List Int) (a : AR) (h : Heap) (hbv : ∃ x n c, bv = .slice x n c) (hrx : RowX h 5 bv (bs.map (Value.int .u8))) (hby : ∀ b ∈ bs, 0 ≤ b ∧ b < 256) (wf : a.WF) (ra : Row h a.dv a.data) (md : a.Modest) :
    Cl Try.prog 3 [.int .i64 p, bv, .agg a.cells.toArray] h fun v _ => v = .bool true := by
  refine Cl.enter Try.func3 rfl _ Try.ntmps3 (by simp) ?_
  intro env hl ha
  have h0 : sl env 0 = .int .i64 p := ha 0 (by simp)
  have h1 : sl env 1 = bv := ha 1 (by simp)
  have h2 : sl env 2 = .agg a.cells.toArray := ha 2 (by simp)
  clear ha
  have h1' := h1
  have h2' := h2
  clear h1 h2
  have hr := hrx.row
  obtain ⟨ax, ac, hdv⟩ := row_len ra
  have oneA : a.cells.all Value.oneCell' = true := by simp [AR.cells, SA.cells, Value.oneCell', hdv]
  have xa : aBox h 30 (.agg a.cells.toArray) = some (pt h.next 0, h.push (.cells a.cells TA false)) := by simp [aBox, aNew, Value.cells, oneA]
  have s1 : Same h (h.push (.cells a.cells TA false)) noS := Same.push _ _ _
  have g1 : (h.push (.cells a.cells TA false)).get h.next = some (.cells a.cells TA false) := Heap.get_push_new
  repeat (first | (with_reducible refine Wp.st ?_; simp only [wS]) | with_reducible refine Wp.drawS (by decide +kernel) ?_ | simp (disch := (first | (simp only [List.length_set, hl]; omega) | omega | rfl)) only [walkA, walkB, bne_self_eq_false, beq_self_eq_true, Option.map_some, Option.map_none, reduceIte, decide_true, decide_false, Int.reduceLT, Int.reduceLE, Int.reduceMul, Int.reduceAdd, Int.reduceSub, h0, h1', h2', xa])
  generalize h.push (.cells a.cells TA false) = hA at s1 g1
  generalize h.next = ka at g1
  refine (known_am _).mono ?_
  intro v h1 q
  rw [q.1]
  replace s1 := s1.tr q.2
  replace g1 := q.2.got g1
  clear q
  have hlen := len_any hr Try.underlying22
  simp only [List.length_map] at hlen
  have la := ldArgs g1 a.len
  cases dl : decide ((bs.length : Int) > 32768) with
  | true =>
    repeat (first | (with_reducible refine Wp.st ?_; simp only [wS]) | with_reducible refine Wp.drawS (by decide +kernel) ?_ | simp (disch := (first | (simp only [List.length_set, hl]; omega) | omega | rfl)) only [walkA, walkB, bne_self_eq_false, beq_self_eq_true, Option.map_some, Option.map_none, reduceIte, decide_true, decide_false, Int.reduceLT, Int.reduceLE, Int.reduceMul, Int.reduceAdd, Int.reduceSub, h0, h1', h2'])
    refine Wp.cond_false (by first | ((simp (disch := (first | (simp only [List.length_set, hl]; omega) | omega | rfl)) only [sL, aEval_tmp]); done) | ((simp (disch := (first | (simp only [List.length_set, hl]; omega) | omega | rfl)) only [sL, aEval_tmp]); rfl)) ?_
    repeat (first | (with_reducible refine Wp.st ?_; simp only [wS]) | with_reducible refine Wp.drawS (by decide +kernel) ?_ | simp (disch := (first | (simp only [List.length_set, hl]; omega) | omega | rfl)) only [walkA, walkB, bne_self_eq_false, beq_self_eq_true, Option.map_some, Option.map_none, reduceIte, decide_true, decide_false, Int.reduceLT, Int.reduceLE, Int.reduceMul, Int.reduceAdd, Int.reduceSub, h0, h1', h2', hlen, dl])
    refine Wp.cond_true (by first | ((simp (disch := (first | (simp only [List.length_set, hl]; omega) | omega | rfl)) only [sL, aEval_tmp]); done) | ((simp (disch := (first | (simp only [List.length_set, hl]; omega) | omega | rfl)) only [sL, aEval_tmp]); rfl)) ?_
    repeat (first | (with_reducible refine Wp.st ?_; simp only [wS]) | with_reducible refine Wp.drawS (by decide +kernel) ?_ | simp (disch := (first | (simp only [List.length_set, hl]; omega) | omega | rfl)) only [walkA, walkB, bne_self_eq_false, beq_self_eq_true, Option.map_some, Option.map_none, reduceIte, decide_true, decide_false, Int.reduceLT, Int.reduceLE, Int.reduceMul, Int.reduceAdd, Int.reduceSub, h0])
    simp (disch := (first | (simp only [List.length_set, hl]; omega) | omega | rfl)) only [aRes_one Try.results3, sL]
  | false =>
    repeat (first | (with_reducible refine Wp.st ?_; simp only [wS]) | with_reducible refine Wp.drawS (by decide +kernel) ?_ | simp (disch := (first | (simp only [List.length_set, hl]; omega) | omega | rfl)) only [walkA, walkB, bne_self_eq_false, beq_self_eq_true, Option.map_some, Option.map_none, reduceIte, decide_true, decide_false, Int.reduceLT, Int.reduceLE, Int.reduceMul, Int.reduceAdd, Int.reduceSub, h0, h1', h2'])
    refine Wp.cond_false (by first | ((simp (disch := (first | (simp only [List.length_set, hl]; omega) | omega | rfl)) only [sL, aEval_tmp]); done) | ((simp (disch := (first | (simp only [List.length_set, hl]; omega) | omega | rfl)) only [sL, aEval_tmp]); rfl)) ?_
    repeat (first | (with_reducible refine Wp.st ?_; simp only [wS]) | with_reducible refine Wp.drawS (by decide +kernel) ?_ | simp (disch := (first | (simp only [List.length_set, hl]; omega) | omega | rfl)) only [walkA, walkB, bne_self_eq_false, beq_self_eq_true, Option.map_some, Option.map_none, reduceIte, decide_true, decide_false, Int.reduceLT, Int.reduceLE, Int.reduceMul, Int.reduceAdd, Int.reduceSub, h0, h1', h2', hlen, dl, la, bRes])
    refine (few_am a resZ ⟨#[]⟩ ⟨#[]⟩ 0 0 h1 ⟨_, _, hdv⟩ md rfl rfl rfl ⟨_, _, rfl⟩ ⟨_, _, rfl⟩ (by decide) (by decide) (by decide)).mono ?_
    intro v h3 q
    rw [q.1]
    have s3 := q.2
    clear q
    cases df : decide ((a.file.size + a.to.size + a.name.size + a.toName.size + a.path.size + a.data.length : Int) < 30000) with
    | false =>
      repeat (first | (with_reducible refine Wp.st ?_; simp only [wS]) | with_reducible refine Wp.drawS (by decide +kernel) ?_ | simp (disch := (first | (simp only [List.length_set, hl]; omega) | omega | rfl)) only [walkA, walkB, bne_self_eq_false, beq_self_eq_true, Option.map_some, Option.map_none, reduceIte, decide_true, decide_false, Int.reduceLT, Int.reduceLE, Int.reduceMul, Int.reduceAdd, Int.reduceSub, h0])
      refine Wp.cond_true (by first | ((simp (disch := (first | (simp only [List.length_set, hl]; omega) | omega | rfl)) only [sL, aEval_tmp, Bool.false_and]); done) | ((simp (disch := (first | (simp only [List.length_set, hl]; omega) | omega | rfl)) only [sL, aEval_tmp, Bool.false_and]); rfl)) ?_
      repeat (first | (with_reducible refine Wp.st ?_; simp only [wS]) | with_reducible refine Wp.drawS (by decide +kernel) ?_ | simp (disch := (first | (simp only [List.length_set, hl]; omega) | omega | rfl)) only [walkA, walkB, bne_self_eq_false, beq_self_eq_true, Option.map_some, Option.map_none, reduceIte, decide_true, decide_false, Int.reduceLT, Int.reduceLE, Int.reduceMul, Int.reduceAdd, Int.reduceSub, h0])
      simp (disch := (first | (simp only [List.length_set, hl]; omega) | omega | rfl)) only [aRes_one Try.results3, sL]
    | true =>
      have dz : (decide (((⟨#[]⟩ : ByteArray).size + (⟨#[]⟩ : ByteArray).size + (0 : Nat) : Int) < 30000) && decide (((0 : Nat) : Int) < 2000)) = true := by decide
      have hok : a.OK := wf.ok (by have := of_decide_eq_true df; omega)
      replace s1 := s1.tr s3
      replace g1 := s3.got g1
      clear s3 la
      have hb : bs.length ≤ 1000000000 := by have := of_decide_eq_false dl; omega
      obtain ⟨mv, h4, ap, mb, s4, _⟩ := appended (hr.on s1) (u8_one bs) (by rw [List.length_map]; exact hb)
      repeat (first | (with_reducible refine Wp.st ?_; simp only [wS]) | with_reducible refine Wp.drawS (by decide +kernel) ?_ | simp (disch := (first | (simp only [List.length_set, hl]; omega) | omega | rfl)) only [walkA, walkB, bne_self_eq_false, beq_self_eq_true, Option.map_some, Option.map_none, reduceIte, decide_true, decide_false, Int.reduceLT, Int.reduceLE, Int.reduceMul, Int.reduceAdd, Int.reduceSub, h0, h1', h2', dz, Bool.and_self, Bool.true_and])
      refine Wp.cond_false (by first | ((simp (disch := (first | (simp only [List.length_set, hl]; omega) | omega | rfl)) only [sL, aEval_tmp]); done) | ((simp (disch := (first | (simp only [List.length_set, hl]; omega) | omega | rfl)) only [sL, aEval_tmp]); rfl)) ?_
      repeat (first | (with_reducible refine Wp.st ?_; simp only [wS]) | with_reducible refine Wp.drawS (by decide +kernel) ?_ | simp (disch := (first | (simp only [List.length_set, hl]; omega) | omega | rfl)) only [walkA, walkB, bne_self_eq_false, beq_self_eq_true, Option.map_some, Option.map_none, reduceIte, decide_true, decide_false, Int.reduceLT, Int.reduceLE, Int.reduceMul, Int.reduceAdd, Int.reduceSub, h0, h1', h2', slice_none, builtin_append, ap])
      replace s1 := s1.tr s4
      replace g1 := s4.got g1
      refine (readArgs_am p mv bs h4 mb.row hb hby).mono ?_
      intro v h5 q
      obtain ⟨dv1, ev, ob1, s5⟩ := q
      rw [ev]
      clear ev
      have mr := mb.row.on s5
      replace s1 := s1.tr s5
      replace g1 := s5.got g1
      obtain ⟨a1, hd1, hrec⟩ := WT.rec (rdArgs_wt hby p) ((rdArgs bs p).2.1.map (Value.int .u8))
      obtain ⟨x1, c1, e1⟩ := row_len ob1.1.row
      obtain ⟨q1, w1⟩ := hrec dv1
      have hone1 : One ({ a1 with dv := dv1 } : AR).cells := by simp [One, AR.cells, SA.cells, Value.oneCell', e1]
      rw [q1]
      have al5 := alArgs (h := h5)
      obtain ⟨h6, st6, g6, s6⟩ := laidArgs (h := h5) (AR.len _) hone1
      have r1 := ob1.1.row.on s6
      replace s1 := s1.tr s6
      replace g1 := s6.got g1
      replace mr := mr.on s6
      repeat (first | (with_reducible refine Wp.st ?_; simp only [wS]) | with_reducible refine Wp.drawS (by decide +kernel) ?_ | simp (disch := (first | (simp only [List.length_set, hl]; omega) | omega | rfl)) only [walkA, walkB, bne_self_eq_false, beq_self_eq_true, Option.map_some, Option.map_none, reduceIte, decide_true, decide_false, Int.reduceLT, Int.reduceLE, Int.reduceMul, Int.reduceAdd, Int.reduceSub, h0, h1', h2', ext0, ext1, al5, st6])
      generalize h5.next = k6 at g6
      clear al5 st6
      refine (readArgsX_am p bv bs h6 hbv (hrx.on s1) hb hby).mono ?_
      intro v h7 q
      obtain ⟨dv2, ev, ob2, s7⟩ := q
      rw [ev]
      clear ev
      obtain ⟨x2, c2, e2⟩ := row_len ob2.1.row
      obtain ⟨q2, w2⟩ := hrec dv2
      have hone2 : One ({ a1 with dv := dv2 } : AR).cells := by simp [One, AR.cells, SA.cells, Value.oneCell', e2]
      rw [q2]
      have al7 := alArgs (h := h7)
      obtain ⟨h8, st8, g8, s8⟩ := laidArgs (h := h7) (AR.len _) hone2
      have s78 := s7.tr s8
      have r2 := ob2.1.row.on s8
      replace r1 := r1.on s78
      replace s1 := s1.tr s78
      replace g1 := s78.got g1
      replace g6 := s78.got g6
      replace mr := mr.on s78
      have la := ldArgs g1 a.len
      repeat (first | (with_reducible refine Wp.st ?_; simp only [wS]) | with_reducible refine Wp.drawS (by decide +kernel) ?_ | simp (disch := (first | (simp only [List.length_set, hl]; omega) | omega | rfl)) only [walkA, walkB, bne_self_eq_false, beq_self_eq_true, Option.map_some, Option.map_none, reduceIte, decide_true, decide_false, Int.reduceLT, Int.reduceLE, Int.reduceMul, Int.reduceAdd, Int.reduceSub, h0, h1', h2', ext0, ext1, al7, st8, la])
      generalize h7.next = k8 at g8
      clear al7 st8 la
      refine (writeArgs_am p a hok h8 (ra.on s1)).mono ?_
      intro v h9 q
      obtain ⟨pv, ev, pb, s9, _, _⟩ := q
      rw [ev]
      clear ev
      replace s1 := s1.tr s9
      replace g1 := s9.got g1
      replace g6 := s9.got g6
      replace g8 := s9.got g8
      replace r1 := r1.on s9
      replace r2 := r2.on s9
      replace mr := mr.on s9
      have la := ldArgs g1 a.len
      repeat (first | (with_reducible refine Wp.st ?_; simp only [wS]) | with_reducible refine Wp.drawS (by decide +kernel) ?_ | simp (disch := (first | (simp only [List.length_set, hl]; omega) | omega | rfl)) only [walkA, walkB, bne_self_eq_false, beq_self_eq_true, Option.map_some, Option.map_none, reduceIte, decide_true, decide_false, Int.reduceLT, Int.reduceLE, Int.reduceMul, Int.reduceAdd, Int.reduceSub, h0, h1', h2', ext0, ext1, la])
      obtain ⟨s0, hs0⟩ := wf.dStr
      refine (writeArgsX_am p a hok s0 hs0 h9 (ra.on s1)).mono ?_
      intro v h10 q
      obtain ⟨pw, ev, pc, s10, _, _⟩ := q
      rw [ev]
      clear ev
      have pr := pb.row.on s10
      replace s1 := s1.tr s10
      replace g6 := s10.got g6
      replace g8 := s10.got g8
      replace r1 := r1.on s10
      replace r2 := r2.on s10
      replace mr := mr.on s10
      have l6 := ldArgs g6 (AR.len _)
      have l8 := ldArgs g8 (AR.len _)
      repeat (first | (with_reducible refine Wp.st ?_; simp only [wS]) | with_reducible refine Wp.drawS (by decide +kernel) ?_ | simp (disch := (first | (simp only [List.length_set, hl]; omega) | omega | rfl)) only [walkA, walkB, bne_self_eq_false, beq_self_eq_true, Option.map_some, Option.map_none, reduceIte, decide_true, decide_false, Int.reduceLT, Int.reduceLE, Int.reduceMul, Int.reduceAdd, Int.reduceSub, h0, h1', h2', ext0, ext1, l6, l8])
      refine (sameArgsX_am { a1 with dv := dv1 } { a1 with dv := dv2 } h10 ⟨_, _, _, e1⟩ ⟨_, _, _, e2⟩ (by rw [← hd1] at r1; exact r1) (by rw [← hd1] at r2; exact r2) (by rw [hd1]; exact isB_ints' _) (by rw [hd1]; exact isB_ints' _)).mono ?_
      intro v h11 q
      rw [q.1, AR.eq_dv]
      have s11 := q.2
      clear q
      have isw : isB (wrArgs p a).1 := wrArgs_isB p a wf.dStr
      have cv1 := conv_row (pr.on s11) isw
      have cv2 := conv_row (pc.row.on s11) isw
      have cv3 := conv_row (mr.on s11) (isB_ints' _)
      have cv4 := conv_row ((hr.on s1).on s11) (isB_ints' _)
      repeat (first | (with_reducible refine Wp.st ?_; simp only [wS]) | with_reducible refine Wp.drawS (by decide +kernel) ?_ | simp (disch := (first | (simp only [List.length_set, hl]; omega) | omega | rfl)) only [walkA, walkB, bne_self_eq_false, beq_self_eq_true, Option.map_some, Option.map_none, reduceIte, decide_true, decide_false, Int.reduceLT, Int.reduceLE, Int.reduceMul, Int.reduceAdd, Int.reduceSub, h0, h1', h2', cv1, cv2, cv3, cv4, bin_str])
      simp (disch := (first | (simp only [List.length_set, hl]; omega) | omega | rfl)) only [aRes_one Try.results3, sL]
end Go.Proofs.Ytanknjpcgceccaa
