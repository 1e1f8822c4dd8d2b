/- The statement NfsxLimits: handles, names, paths and data are taken up to the most there may be, not one byte longer; the law returns true and its arguments read as they did. Without conditions. -/
import Derived.Test.YtanknjpcgceccaaLims5
import Derived.Test.YtanknjpcgceccaaLims9
import Derived.JoinedCond

namespace Go.Proofs.Ytanknjpcgceccaa
open Go Go.AM Go.RowKit Go.ChangeShapes
set_option linter.unusedSimpArgs false
set_option maxRecDepth 100000
end Go.Proofs.Ytanknjpcgceccaa

namespace Go.Proofs.Ytanknjpcgceccaa
open Go Go.AM Go.RowKit Go.ChangeShapes
set_option linter.unusedSimpArgs false
set_option maxRecDepth 100000
end Go.Proofs.Ytanknjpcgceccaa

namespace Go.Proofs.Ytanknjpcgceccaa
open Go Go.AM
set_option linter.unusedSimpArgs false
set_option maxRecDepth 100000
def zi (m : Nat) : List Int := List.replicate m 0
def zb (m : Nat) : ByteArray := ⟨(List.replicate m (0 : UInt8)).toArray⟩
theorem zi_len (m : Nat) : (zi m).length = m := by simp [zi]
theorem zi_app (a b : Nat) : zi a ++ zi b = zi (a + b) := by simp [zi]
theorem strB_zb (m : Nat) : strB (zb m) = (zi m).map (Value.int .u8) := by simp [strB, zb, zi]
theorem zb_size (m : Nat) : (zb m).size = m := by
  show (zb m).data.size = m
  simp [zb]
theorem strS_zi (m : Nat) : strS ((zi m).map (Value.int .u8)) = zb m := by rw [← strB_zb, strS_str]
theorem beI0 {n : Nat} (hn : n = 4 ∨ n = 8) : beI 0 n = zi n := by rcases hn with rfl | rfl <;> decide
theorem rNum_z {a i n : Nat} (hn : n = 4 ∨ n = 8) (h : i + n ≤ a) (q : List Int) : rNum (zi a ++ q) n (i, 0) = (0, i + n, 0) := by
  have e := rNum_at (p := zi i) (q := zi (a - i - n) ++ q) 0 n hn (by rcases hn with rfl | rfl <;> decide)
  have e2 : zi i ++ (beI (0 : Nat) n ++ (zi (a - i - n) ++ q)) = zi a ++ q := by
    have : beI ((0 : Nat) : Int) n = zi n := beI0 hn
    rw [this, ← List.append_assoc, ← List.append_assoc, zi_app, zi_app]
    congr 2
    omega
  rw [e2, zi_len] at e
  exact e
def zT (m : Nat) : List Int := beI m 4 ++ (zi m ++ padI m)
theorem zT_len (m : Nat) : (zT m).length = 4 + m + pad m := by
  simp only [zT, List.length_append, beI_length, zi_len, padI_length]; omega
theorem rBytes_z {l : List Int} {most : Int} {m : Nat} (hm : (m : Int) ≤ most) (h32 : m < 4294967296) : rBytes (l ++ zT m) most (l.length, 0) = (zi m, (l ++ zT m).length, 0) := by
  have e := rBytes_at (p := l) (q := zi m) (r := padI m) (s := []) (by rw [zi_len]; exact h32) (by rw [zi_len, padI_length]) most
  rw [zi_len, if_neg (by omega), if_pos (pad_all m), List.append_nil, padI_length] at e
  show rBytes (l ++ (beI m 4 ++ (zi m ++ padI m))) most (l.length, 0) = _
  rw [e, List.length_append, zT_len]
  congr 2
  omega
theorem pText_z {l : List Int} {o : Nat} {most : Int} {m : Nat} {bad : Bool} {cs : List Value} (hm : (m : Int) ≤ most) (h32 : m < 4294967296) : pText (l ++ zT m) o most ⟨(l.length, 0), bad, cs⟩ = ⟨((l ++ zT m).length, 0), bad, cs.set o (.string (zb m))⟩ := by
  unfold pText
  rw [rBytes_z hm h32]
  simp only [strS_zi]
theorem wText_z {l : List Int} {most : Int} {m : Nat} {bad : Bool} : wText most (zb m) ⟨l.map (Value.int .u8), bad⟩ = ⟨(l ++ zT m).map (Value.int .u8), bad || !(decide ((m : Int) ≤ most))⟩ := by
  unfold wText zT
  rw [zb_size, strB_zb, beTo_beI, padB_padI]
  simp only [List.map_append]
theorem wRow_z {l : List Int} {most : Int} {m : Nat} {bad : Bool} : wRow most (strB (zb m)) ⟨l.map (Value.int .u8), bad⟩ = ⟨(l ++ zT m).map (Value.int .u8), bad || !(decide ((m : Int) ≤ most))⟩ := by
  unfold wRow zT
  rw [strB_zb, List.length_map, zi_len, beTo_beI, padB_padI]
  simp only [List.map_append]
def lA (k m : Nat) (dv : Value) : AR := match k with
  | 0 => { aZ with file := zb m, dv := dv }
  | 1 => { aZ with name := zb m, dv := dv }
  | 2 => { aZ with path := zb m, dv := dv }
  | _ => { aZ with data := strB (zb m), dv := dv }
def lP (k : Nat) : Int := match k with
  | 0 => 1
  | 1 => 3
  | 2 => 10
  | _ => 7
def lM (k : Nat) : Int := match k with
  | 0 => 64
  | 1 => 255
  | 2 => 1024
  | _ => 8192
def lZ (k : Nat) : Nat := match k with
  | 0 => 0
  | 1 => 4
  | 2 => 32
  | _ => 20
theorem wArgs_z (k m : Nat) (dv : Value) (hk : k < 4) : wArgs (lP k) (lA k m dv) ⟨[], false⟩ = ⟨(zi (lZ k) ++ zT m).map (Value.int .u8), !(decide ((m : Int) ≤ lM k))⟩ := by
  have f0 : aZ.file = zb 0 := by decide
  have t0 : wText 64 aZ.file ⟨[], false⟩ = ⟨(zi 4).map (Value.int .u8), false⟩ := by kernel_rfl
  match k, hk with
  | 0, _ =>
    have : wArgs 1 (lA 0 m dv) ⟨[], false⟩ = wText 64 (zb m) ⟨([] : List Int).map (Value.int .u8), false⟩ := by unfold wArgs; rfl
    show wArgs 1 (lA 0 m dv) ⟨[], false⟩ = _
    rw [this, wText_z]
    rfl
  | 1, _ =>
    have : wArgs 3 (lA 1 m dv) ⟨[], false⟩ = wText 255 (zb m) (wText 64 aZ.file ⟨[], false⟩) := by unfold wArgs wNamed; rfl
    show wArgs 3 (lA 1 m dv) ⟨[], false⟩ = _
    rw [this, t0, wText_z, Bool.false_or]
    rfl
  | 2, _ =>
    have : wArgs 10 (lA 2 m dv) ⟨[], false⟩ = wText 1024 (zb m) (wSet aZ.set (wText 255 aZ.name (wText 64 aZ.file ⟨[], false⟩))) := by unfold wArgs wNamed; rfl
    have t1 : wSet aZ.set (wText 255 aZ.name (wText 64 aZ.file ⟨[], false⟩)) = ⟨(zi 32).map (Value.int .u8), false⟩ := by kernel_rfl
    show wArgs 10 (lA 2 m dv) ⟨[], false⟩ = _
    rw [this, t1, wText_z, Bool.false_or]
    rfl
  | 3, _ =>
    have : wArgs 7 (lA 3 m dv) ⟨[], false⟩ = wRow 8192 (strB (zb m)) (wNum 0 2 aZ.stable (wU32 aZ.count (wU64 aZ.offset (wText 64 aZ.file ⟨[], false⟩)))) := by unfold wArgs; rfl
    have t1 : wNum 0 2 aZ.stable (wU32 aZ.count (wU64 aZ.offset (wText 64 aZ.file ⟨[], false⟩))) = ⟨(zi 20).map (Value.int .u8), false⟩ := by kernel_rfl
    show wArgs 7 (lA 3 m dv) ⟨[], false⟩ = _
    rw [this, t1, wRow_z, Bool.false_or]
    rfl
theorem there_z (k : Nat) : there (lP k) = true := by unfold lP; split <;> decide
theorem wrArgs_z (k m : Nat) (dv : Value) (hk : k < 4) : wrArgs (lP k) (lA k m dv) = if (m : Int) ≤ lM k then ((zi (lZ k) ++ zT m).map (Value.int .u8), 0) else ([], 33) := by
  unfold wrArgs
  rw [if_pos (there_z k), wArgs_z k m dv hk]
  by_cases h : (m : Int) ≤ lM k
  · simp [h]
  · simp [h]
def lD (k m : Nat) : List Int := match k with
  | 3 => zi m
  | _ => []
theorem text0 {q : List Int} {a i o : Nat} {most : Int} {bad : Bool} {cs : List Value} (h : i + 4 ≤ a) (hm : 0 ≤ most) : pText (zi a ++ q) o most ⟨(i, 0), bad, cs⟩ = ⟨(i + 4, 0), bad, cs.set o strZ⟩ := by
  have e1 := rNum_z (.inl rfl) h q (n := 4)
  have e2 : rFixed (zi a ++ q) 0 (i + 4, 0) = ([], i + 4, 0) := by
    unfold rFixed
    rw [if_neg (by simp), if_neg (by omega)]
    have : pad (0 : Int).toNat = 0 := by decide
    rw [this]
    rw [if_neg (by simp only [List.length_append, zi_len, Int.toNat_zero]; omega)]
    simp
  unfold pText rBytes
  simp only [e1, e2, ne_eq, not_true_eq_false, if_false]
  rw [if_neg (by omega)]
  rfl
theorem rdArgs_z (k m : Nat) (hk : k < 4) (hm : (m : Int) ≤ lM k) : ∃ cs, rdArgs (zi (lZ k) ++ zT m) (lP k) = (cs, lD k m, 0) ∧ ∀ dv, cs.set 28 dv = (lA k m dv).cells := by
  have h32 : m < 4294967296 := by
    have : lM k ≤ 8192 := by unfold lM; split <;> omega
    omega
  unfold rdArgs
  rw [if_pos (there_z k)]
  match k, hk with
  | 0, _ =>
    have e := pText_z (l := []) (o := 0) (m := m) (bad := false) (cs := argsZ) hm h32
    have : pArgs (zi (lZ 0) ++ zT m) (lP 0) ⟨(0, 0), false, argsZ⟩ = pText ([] ++ zT m) 0 64 ⟨(([] : List Int).length, 0), false, argsZ⟩ := by unfold pArgs; rfl
    refine ⟨argsZ.set 0 (.string (zb m)), ?_, fun dv => rfl⟩
    · simp only [this]
      rw [show (64 : Int) = lM 0 from rfl, e]
      rw [if_pos ⟨rfl, rfl, rfl⟩]
      rfl
  | 1, _ =>
    have e := pText_z (l := zi 4) (o := 2) (m := m) (bad := false) (cs := argsZ.set 0 strZ) hm h32
    have : pArgs (zi (lZ 1) ++ zT m) (lP 1) ⟨(0, 0), false, argsZ⟩ = pText (zi 4 ++ zT m) 2 255 (pText (zi 4 ++ zT m) 0 64 ⟨(0, 0), false, argsZ⟩) := by unfold pArgs pNamed; rfl
    refine ⟨(argsZ.set 0 strZ).set 2 (.string (zb m)), ?_, fun dv => rfl⟩
    · simp only [this]
      rw [text0 (by omega) (by omega)]
      rw [show (255 : Int) = lM 1 from rfl, show (0 + 4 : Nat) = (zi 4).length from rfl, e]
      rw [if_pos ⟨rfl, rfl, rfl⟩]
      rfl
  | 2, _ =>
    have e := pText_z (l := zi 32) (o := 4) (m := m) (bad := false) (cs := argsZ) hm h32
    have : pArgs (zi (lZ 2) ++ zT m) (lP 2) ⟨(0, 0), false, argsZ⟩ = pText (zi 32 ++ zT m) 4 1024 (pSet (zi 32 ++ zT m) 5 (pText (zi 32 ++ zT m) 2 255 (pText (zi 32 ++ zT m) 0 64 ⟨(0, 0), false, argsZ⟩))) := by unfold pArgs pNamed; rfl
    have s : pSet (zi 32 ++ zT m) 5 ⟨(0 + 4 + 4, 0), false, (argsZ.set 0 strZ).set 2 strZ⟩ = ⟨((zi 32).length, 0), false, argsZ⟩ := by
      have n8 := rNum_z (a := 32) (i := 8) (n := 4) (.inl rfl) (by omega) (zT m)
      have n12 := rNum_z (a := 32) (i := 12) (n := 4) (.inl rfl) (by omega) (zT m)
      have n16 := rNum_z (a := 32) (i := 16) (n := 4) (.inl rfl) (by omega) (zT m)
      have n20 := rNum_z (a := 32) (i := 20) (n := 4) (.inl rfl) (by omega) (zT m)
      have n24 := rNum_z (a := 32) (i := 24) (n := 4) (.inl rfl) (by omega) (zT m)
      have n28 := rNum_z (a := 32) (i := 28) (n := 4) (.inl rfl) (by omega) (zT m)
      simp only [pSet, pIf, pHow, pBool, pNum, pNoTime, rBool, n8, n12, n16, n20, n24, n28, Nat.reduceAdd]
      simp only [show ((0 : Int) > 1) = False by simp, if_false, show ((0 : Int) == 1) = false by rfl, Bool.false_eq_true, show ((0 : Int) = 2) = False by simp, n8, n12, n16, n20, n24, n28, Nat.reduceAdd]
      rfl
    refine ⟨argsZ.set 4 (.string (zb m)), ?_, fun dv => rfl⟩
    · simp only [this]
      rw [text0 (by omega) (by omega), text0 (by omega) (by omega), s]
      rw [show (1024 : Int) = lM 2 from rfl, e]
      rw [if_pos ⟨rfl, rfl, rfl⟩]
      rfl
  | 3, _ =>
    have e := rBytes_z (l := zi 20) (m := m) hm h32
    have s : pNum (zi 20 ++ zT m) 25 0 2 (pU32 (zi 20 ++ zT m) 24 (pU64 (zi 20 ++ zT m) 23 (pText (zi 20 ++ zT m) 0 64 ⟨(0, 0), false, argsZ⟩))) = ⟨((zi 20).length, 0), false, argsZ⟩ := by
      have n4 := rNum_z (a := 20) (i := 4) (n := 8) (.inr rfl) (by omega) (zT m)
      have n12 := rNum_z (a := 20) (i := 12) (n := 4) (.inl rfl) (by omega) (zT m)
      have n16 := rNum_z (a := 20) (i := 16) (n := 4) (.inl rfl) (by omega) (zT m)
      rw [text0 (by omega) (by omega)]
      simp only [pNum, pU32, pU64, n4, n12, n16, Nat.reduceAdd, Nat.zero_add]
      rfl
    have p : pArgs (zi (lZ 3) ++ zT m) (lP 3) ⟨(0, 0), false, argsZ⟩ = (let y := pNum (zi 20 ++ zT m) 25 0 2 (pU32 (zi 20 ++ zT m) 24 (pU64 (zi 20 ++ zT m) 23 (pText (zi 20 ++ zT m) 0 64 ⟨(0, 0), false, argsZ⟩))); ⟨(rBytes (zi 20 ++ zT m) 8192 y.s).2, y.bad, y.cs⟩) := by unfold pArgs; rfl
    have d : pData (zi (lZ 3) ++ zT m) (lP 3) ⟨(0, 0), false, argsZ⟩ = (rBytes (zi 20 ++ zT m) 8192 (pNum (zi 20 ++ zT m) 25 0 2 (pU32 (zi 20 ++ zT m) 24 (pU64 (zi 20 ++ zT m) 23 (pText (zi 20 ++ zT m) 0 64 ⟨(0, 0), false, argsZ⟩)))).s).1 := by unfold pData; rfl
    rw [s] at p d
    simp only at p d
    rw [show (8192 : Int) = lM 3 from rfl, e] at p d
    refine ⟨argsZ, ?_, fun dv => rfl⟩
    rw [p, d]
    show (if _ then _ else _) = _
    rw [if_pos ⟨rfl, rfl, rfl⟩]
    rfl
end Go.Proofs.Ytanknjpcgceccaa

namespace Go.Proofs.Ytanknjpcgceccaa
open Go Go.AM
set_option linter.unusedSimpArgs false
set_option maxRecDepth 100000
attribute [local irreducible] WOps WV WH WSt WNil WPick WGd
theorem built4 (h : Heap) (a b c d : Int) : ∃ v h', aBuildSlice Try.prog h 56 4 [(0, .int .i64 a), (1, .int .i64 b), (2, .int .i64 c), (3, .int .i64 d)] = some (v, h') ∧ Row h' v [.int .i64 a, .int .i64 b, .int .i64 c, .int .i64 d] ∧ Same h h' noS ∧ h' = h.push (.cells [.int .i64 a, .int .i64 b, .int .i64 c, .int .i64 d] 3 false) :=
  ⟨.slice (some ⟨h.next, 0, none⟩) 4 4, h.push (.cells [.int .i64 a, .int .i64 b, .int .i64 c, .int .i64 d] 3 false), by kernel_rfl, .inr (.inr ⟨h.next, 0, 4, _, _, _, rfl, Heap.get_push_new, by simp, by simp⟩), Same.push _ _ _, rfl⟩
theorem made (h : Heap) (m : Nat) (hm : m ≤ 100000) : ∃ v h', aMake Try.prog h 22 (.int .i64 m) (.int .i64 m) = some (v, h') ∧ Row h' v (strB (zb m)) ∧ Same h h' noS := by
  have z : (Try.t5).zero = some (.int .u8 0) := rfl
  have zr : zeroRow (Value.int .u8 0).cells.toList m = strB (zb m) := by
    rw [strB_zb]
    have : (Value.int .u8 0).cells.toList = [.int .u8 0] := rfl
    rw [this]
    unfold zeroRow zi
    simp only [List.length_singleton, Nat.mul_one, Nat.mod_one, List.getD_cons_zero, List.map_replicate]
    rw [List.map_const', List.length_range]
  have o : (strB (zb m)).all Value.oneCell' = true := strB_one _
  refine ⟨.slice (some ⟨h.next, 0, none⟩) m m, h.push (.cells (strB (zb m)) 5 false), ?_, .inr (.inr ⟨h.next, 0, m, strB (zb m), _, _, by rw [strB_len, zb_size], Heap.get_push_new, by simp, by simp⟩), Same.push _ _ _⟩
  have s1 : small (m * (Try.t5).bytes) = true := small_of (by
    have hb : (Try.t5).bytes = 1 := rfl
    rw [hb]; omega)
  have s2 : small m = true := small_of (by omega)
  have s3 : (Nat.beq (Value.int .u8 0).cells.size (Try.t5).size && plainB 4 (Value.int .u8 0)) = true := by decide
  simp only [aMake, Try.underlying22, i5, z, Int.toNat_natCast, s1, s2, Bool.true_and]
  rw [if_pos ⟨by omega, by omega⟩, s3, zr]
  simp only [aNew, o, cond_true]
theorem conved (h : Heap) (m : Nat) (hm : m ≤ 100000) : ∃ v, aConv Try.prog h 9 22 (.string (zb m)) = some (v, h.push (.cells (strB (zb m)) 5 false)) ∧ v = .slice (some ⟨h.next, 0, none⟩) m opnCap :=
  ⟨_, cvStr (h := h) (s := zb m) (by rw [zb_size]; omega), by rw [zb_size]⟩
theorem row_of {H : Heap} {k n c : Nat} {v : Value} {vs : List Value} {T : TypeId} {ro : Bool} (q : H.get k = some (.cells vs T ro)) (e : v = .slice (some ⟨k, 0, none⟩) n c) (hl : vs.length = n) : Row H v vs :=
  .inr (.inr ⟨k, 0, c, vs, T, ro, by rw [e, hl], q, by omega, by simp⟩)
theorem lM_b (k : Nat) : 64 ≤ lM k ∧ lM k ≤ 8192 := by unfold lM; split <;> omega
theorem lM_at {k : Nat} (hk : k < 4) : ([Value.int .i64 64, .int .i64 255, .int .i64 1024, .int .i64 8192][k]'(by simpa using hk)) = .int .i64 (lM k) := by
  match k, hk with
  | 0, _ => rfl
  | 1, _ => rfl
  | 2, _ => rfl
  | 3, _ => rfl
theorem lP_at {k : Nat} (hk : k < 4) : ([Value.int .i64 1, .int .i64 3, .int .i64 10, .int .i64 7][k]'(by simpa using hk)) = .int .i64 (lP k) := by
  match k, hk with
  | 0, _ => rfl
  | 1, _ => rfl
  | 2, _ => rfl
  | 3, _ => rfl
theorem lA_wf (k m : Nat) (hk : k < 4) (dv : Value) (hd : ∃ x n c, dv = .slice x n c) : (lA k m dv).WF := by
  match k, hk with
  | 0, _ => exact ⟨⟨u0, u0, u0, u0, u0, u0⟩, u0, u0, u0, u0, u0, u0, u0, u0, hd, ⟨⟨#[]⟩, rfl⟩⟩
  | 1, _ => exact ⟨⟨u0, u0, u0, u0, u0, u0⟩, u0, u0, u0, u0, u0, u0, u0, u0, hd, ⟨⟨#[]⟩, rfl⟩⟩
  | 2, _ => exact ⟨⟨u0, u0, u0, u0, u0, u0⟩, u0, u0, u0, u0, u0, u0, u0, u0, hd, ⟨⟨#[]⟩, rfl⟩⟩
  | 3, _ => exact ⟨⟨u0, u0, u0, u0, u0, u0⟩, u0, u0, u0, u0, u0, u0, u0, u0, hd, ⟨zb m, rfl⟩⟩
theorem lA_ok (k m : Nat) (hk : k < 4) (hm : m ≤ 10000) (dv : Value) (hd : ∃ x n c, dv = .slice x n c) : (lA k m dv).OK := by
  refine (lA_wf k m hk dv hd).ok ?_
  have z0 : (⟨#[]⟩ : ByteArray).size = 0 := rfl
  have zm := zb_size m
  have zl : (strB (zb m)).length = m := by rw [strB_len, zb_size]
  match k, hk with
  | 0, _ => simp only [lA, aZ, z0, zm, List.length_nil]; omega
  | 1, _ => simp only [lA, aZ, z0, zm, List.length_nil]; omega
  | 2, _ => simp only [lA, aZ, z0, zm, List.length_nil]; omega
  | 3, _ => simp only [lA, aZ, z0, zl]; omega
theorem lA_eq (k m : Nat) (d1 d2 : Value) : AR.eq (lA k m d1) (lA k m d2) = true := by
  unfold lA
  split
  · exact AR.eq_dv { aZ with file := zb m } d1 d2
  · exact AR.eq_dv { aZ with name := zb m } d1 d2
  · exact AR.eq_dv { aZ with path := zb m } d1 d2
  · exact AR.eq_dv { aZ with data := strB (zb m) } d1 d2
theorem lA_dv (k m : Nat) (dv : Value) : (lA k m dv).dv = dv := by unfold lA; split <;> rfl
theorem lA_data {k : Nat} (m : Nat) (dv : Value) (hk : k < 4) : (lA k m dv).data = (lD k m).map (Value.int .u8) := by
  match k, hk with
  | 0, _ => rfl
  | 1, _ => rfl
  | 2, _ => rfl
  | 3, _ => exact strB_zb m
theorem lD_len (k m : Nat) : (lD k m).length ≤ m := by unfold lD; split <;> simp [zi_len]
theorem zT_by (k m : Nat) : ∀ b ∈ zi (lZ k) ++ zT m, 0 ≤ b ∧ b < 256 := by
  intro b hb
  rcases List.mem_append.1 hb with hb | hb
  · have := List.eq_of_mem_replicate hb; omega
  · rcases List.mem_append.1 hb with hb | hb
    · exact beI_byte _ _ _ hb
    · rcases List.mem_append.1 hb with hb | hb
      · have := List.eq_of_mem_replicate hb; omega
      · have := List.eq_of_mem_replicate hb; omega
set_option maxHeartbeats 4000000 in
theorem nfsxLimits_am (kd n : Int) (hk1 : -9223372036854775808 ≤ kd) (hk2 : kd ≤ 9223372036854775807) (hn1 : -9223372036854775808 ≤ n) (hn2 : n ≤ 9223372036854775807) (h : Heap) :
    Cl Try.prog 5 [.int .i64 kd, .int .i64 n] h fun v _ => v = .bool true := by
  refine Cl.enter Try.func5 rfl _ Try.ntmps5 (by simp) ?_
  intro env hl ha
  have h0 : sl env 0 = .int .i64 kd := ha 0 (by simp)
  have h1 : sl env 1 = .int .i64 n := ha 1 (by simp)
  clear ha
  repeat (first | (with_reducible refine Wp.st ?_; simp only [wS]) | with_reducible refine Wp.drawS (by decide +kernel) ?_ | simp (disch := (first | (simp only [List.length_set, hl]; omega) | omega | rfl)) only [walkA, walkB, bne_self_eq_false, beq_self_eq_true, Option.map_some, Option.map_none, reduceIte, decide_true, decide_false, Int.reduceLT, Int.reduceLE, Int.reduceMul, Int.reduceAdd, Int.reduceSub, h0, h1])
  refine (known_am _).mono ?_
  intro v ha q
  rw [q.1]
  clear q
  obtain ⟨k, hk, ek⟩ := tmod_abs kd 4 (by omega)
  obtain ⟨j, hj, ej⟩ := tmod_abs n 40 (by omega)
  repeat (first | (with_reducible refine Wp.st ?_; simp only [wS]) | with_reducible refine Wp.drawS (by decide +kernel) ?_ | simp (disch := (first | (simp only [List.length_set, hl]; omega) | omega | rfl)) only [walkA, walkB, bne_self_eq_false, beq_self_eq_true, Option.map_some, Option.map_none, reduceIte, decide_true, decide_false, Int.reduceLT, Int.reduceLE, Int.reduceMul, Int.reduceAdd, Int.reduceSub, h0, h1])
  refine Wp.cond_false (by first | ((simp (disch := (first | (simp only [List.length_set, hl]; omega) | omega | rfl)) only [sL, aEval_tmp]); done) | ((simp (disch := (first | (simp only [List.length_set, hl]; omega) | omega | rfl)) only [sL, aEval_tmp]); rfl)) ?_
  repeat (first | (with_reducible refine Wp.st ?_; simp only [wS]) | with_reducible refine Wp.drawS (by decide +kernel) ?_ | simp (disch := (first | (simp only [List.length_set, hl]; omega) | omega | rfl)) only [walkA, walkB, bne_self_eq_false, beq_self_eq_true, Option.map_some, Option.map_none, reduceIte, decide_true, decide_false, Int.reduceLT, Int.reduceLE, Int.reduceMul, Int.reduceAdd, Int.reduceSub, h0, h1, bin_rem])
  refine Wp.mono (Q := fun ax e h' => ax = .normal ∧ e.length = 94 ∧ sl e 0 = .int .i64 k ∧ sl e 1 = .int .i64 n ∧ h' = ha) ?_ ?_
  · rcases ek with e | ⟨e1, e2⟩
    · have e : kd.tmod 4 = k := e
      refine Wp.cond_false (by (simp (disch := (first | (simp only [List.length_set, hl]; omega) | omega | rfl)) only [sL, aEval_tmp]); rw [e]; simp) ?_
      repeat (first | (with_reducible refine Wp.st ?_; simp only [wS]) | with_reducible refine Wp.drawS (by decide +kernel) ?_ | simp (disch := (first | (simp only [List.length_set, hl]; omega) | omega | rfl)) only [walkA, walkB, bne_self_eq_false, beq_self_eq_true, Option.map_some, Option.map_none, reduceIte, decide_true, decide_false, Int.reduceLT, Int.reduceLE, Int.reduceMul, Int.reduceAdd, Int.reduceSub])
      exact ⟨by trivial, by simp [hl], by (try (simp (disch := (first | (simp only [List.length_set, hl]; omega) | omega | rfl)) only [sL])); rw [e], by first | trivial | (simp (disch := (first | (simp only [List.length_set, hl]; omega) | omega | rfl)) only [sL, h1]), by trivial⟩
    · have e1 : kd.tmod 4 < 0 := e1
      have e2 : 0 - kd.tmod 4 = k := e2
      refine Wp.cond_true (by (simp (disch := (first | (simp only [List.length_set, hl]; omega) | omega | rfl)) only [sL, aEval_tmp]); simpa using e1) ?_
      repeat (first | (with_reducible refine Wp.st ?_; simp only [wS]) | with_reducible refine Wp.drawS (by decide +kernel) ?_ | simp (disch := (first | (simp only [List.length_set, hl]; omega) | omega | rfl)) only [walkA, walkB, bne_self_eq_false, beq_self_eq_true, Option.map_some, Option.map_none, reduceIte, decide_true, decide_false, Int.reduceLT, Int.reduceLE, Int.reduceMul, Int.reduceAdd, Int.reduceSub])
      exact ⟨by trivial, by simp [hl], by (try (simp (disch := (first | (simp only [List.length_set, hl]; omega) | omega | rfl)) only [sL])); rw [← e2], by first | trivial | (simp (disch := (first | (simp only [List.length_set, hl]; omega) | omega | rfl)) only [sL, h1]), by trivial⟩
  clear h0 h1 hl ek env
  rintro ax env h' ⟨rfl, hl, q0, q1, eh⟩
  rw [eh]
  clear eh h'
  obtain ⟨v4, hB, b4, r4, sB, _⟩ := built4 ha 64 255 1024 8192
  obtain ⟨pk, po, x1, x2⟩ := r4.index (P := Try.prog) Try.underlying56 (show Try.prog.info? 3 = some Try.t3 by kernel_rfl) rfl (j := k) (kd := .i64) (by simpa using hk)
  rw [← aLoad_one (P := Try.prog) Try.underlying3 (by simp) (by simp), lM_at hk] at x2
  repeat (first | (with_reducible refine Wp.st ?_; simp only [wS]) | with_reducible refine Wp.drawS (by decide +kernel) ?_ | simp (disch := (first | (simp only [List.length_set, hl]; omega) | omega | rfl)) only [walkA, walkB, bne_self_eq_false, beq_self_eq_true, Option.map_some, Option.map_none, reduceIte, decide_true, decide_false, Int.reduceLT, Int.reduceLE, Int.reduceMul, Int.reduceAdd, Int.reduceSub, q0, q1, b4, x1, x2, bin_rem])
  refine Wp.mono (Q := fun ax e h' => ax = .normal ∧ e.length = 94 ∧ sl e 0 = .int .i64 k ∧ sl e 1 = .int .i64 j ∧ sl e 5 = .int .i64 (lM k) ∧ h' = hB) ?_ ?_
  · rcases ej with e | ⟨e1, e2⟩
    · have e : n.tmod 40 = j := e
      refine Wp.cond_false (by (simp (disch := (first | (simp only [List.length_set, hl]; omega) | omega | rfl)) only [sL, aEval_tmp]); rw [e]; simp) ?_
      repeat (first | (with_reducible refine Wp.st ?_; simp only [wS]) | with_reducible refine Wp.drawS (by decide +kernel) ?_ | simp (disch := (first | (simp only [List.length_set, hl]; omega) | omega | rfl)) only [walkA, walkB, bne_self_eq_false, beq_self_eq_true, Option.map_some, Option.map_none, reduceIte, decide_true, decide_false, Int.reduceLT, Int.reduceLE, Int.reduceMul, Int.reduceAdd, Int.reduceSub])
      exact ⟨by trivial, by simp [hl], by first | trivial | (simp (disch := (first | (simp only [List.length_set, hl]; omega) | omega | rfl)) only [sL, q0]), by (try (simp (disch := (first | (simp only [List.length_set, hl]; omega) | omega | rfl)) only [sL])); rw [e], by first | trivial | (simp (disch := (first | (simp only [List.length_set, hl]; omega) | omega | rfl)) only [sL]), by trivial⟩
    · have e1 : n.tmod 40 < 0 := e1
      have e2 : 0 - n.tmod 40 = j := e2
      refine Wp.cond_true (by (simp (disch := (first | (simp only [List.length_set, hl]; omega) | omega | rfl)) only [sL, aEval_tmp]); simpa using e1) ?_
      repeat (first | (with_reducible refine Wp.st ?_; simp only [wS]) | with_reducible refine Wp.drawS (by decide +kernel) ?_ | simp (disch := (first | (simp only [List.length_set, hl]; omega) | omega | rfl)) only [walkA, walkB, bne_self_eq_false, beq_self_eq_true, Option.map_some, Option.map_none, reduceIte, decide_true, decide_false, Int.reduceLT, Int.reduceLE, Int.reduceMul, Int.reduceAdd, Int.reduceSub])
      exact ⟨by trivial, by simp [hl], by first | trivial | (simp (disch := (first | (simp only [List.length_set, hl]; omega) | omega | rfl)) only [sL, q0]), by (try (simp (disch := (first | (simp only [List.length_set, hl]; omega) | omega | rfl)) only [sL])); rw [← e2], by first | trivial | (simp (disch := (first | (simp only [List.length_set, hl]; omega) | omega | rfl)) only [sL]), by trivial⟩
  clear q0 q1 hl ej b4 x1 x2 r4 env
  rintro ax env h' ⟨rfl, hl, h0, h1, h5, eh⟩
  rw [eh]
  clear eh h'
  have mb := lM_b k
  obtain ⟨m, em⟩ : ∃ m : Nat, lM k - 20 + j = m := ⟨(lM k - 20 + j).toNat, by omega⟩
  have hm : m ≤ 10000 := by omega
  obtain ⟨v9, hC, mk, r9, sC⟩ := made hB m (by omega)
  have cv := cvBack (zb m) hC v9 r9
  have s0 := (St.nil (fun j => j < hC.next) hC (fun _ x => x)).push argsZ TA
  obtain ⟨hD, p1, p2⟩ : ∃ hD, aStore Try.prog (hC.push (.cells argsZ TA false)) 30 (pt hC.next 0) (.agg argsZ.toArray) = some hD ∧ St (fun j => j < hC.next) hC hD [(hC.next, argsZ, TA)] :=
    ⟨_, (s0.stS (P := Try.prog) (t := 30) iArgs rfl rfl argsZ_one).1, (s0.stS (P := Try.prog) (t := 30) iArgs rfl rfl argsZ_one).2⟩
  obtain ⟨v8, hE, b8, r8, _, eE⟩ := built4 hD 1 3 10 7
  have s2 := (p2.push [.int .i64 1, .int .i64 3, .int .i64 10, .int .i64 7] 3).swap
  rw [← eE] at s2
  obtain ⟨pk, po, y1, y2⟩ := r8.index (P := Try.prog) Try.underlying56 (show Try.prog.info? 3 = some Try.t3 by kernel_rfl) rfl (j := k) (kd := .i64) (by simpa using hk)
  rw [← aLoad_one (P := Try.prog) Try.underlying3 (by simp) (by simp), lP_at hk] at y2
  repeat (first | (with_reducible refine Wp.st ?_; simp only [wS]) | with_reducible refine Wp.drawS (by decide +kernel) ?_ | simp (disch := (first | (simp only [List.length_set, hl]; omega) | omega | rfl)) only [walkA, walkB, bne_self_eq_false, beq_self_eq_true, Option.map_some, Option.map_none, reduceIte, decide_true, decide_false, Int.reduceLT, Int.reduceLE, Int.reduceMul, Int.reduceAdd, Int.reduceSub, h0, h1, h5, em, mk, cv, bArgs, alArgs, p1, b8, y1, y2])
  refine Wp.mono (Q := fun ax e h' => ax = .normal ∧ e.length = 94 ∧ sl e 1 = .int .i64 m ∧ sl e 5 = .int .i64 (lM k) ∧ sl e 7 = pt hC.next 0 ∧ sl e 8 = .int .i64 (lP k) ∧ ∃ dv, (∃ x n c, dv = .slice x n c) ∧ h'.get hC.next = some (.cells (lA k m dv).cells TA false) ∧ Row h' dv (lA k m dv).data) ?_ ?_
  · have hk' : k = 0 ∨ k = 1 ∨ k = 2 ∨ k = 3 := by omega
    rcases hk' with rfl | rfl | rfl | rfl
    · skip
      have q := s2.st (P := Try.prog) (t := 9) iStr rfl 0 (by decide) (v := .string (zb m)) rfl rfl
      have q1 := q.1
      have q2 := q.2.hd
      clear q
      refine Wp.cond_true (by first | ((simp (disch := (first | (simp only [List.length_set, hl]; omega) | omega | rfl)) only [sL, aEval_tmp]); done) | ((simp (disch := (first | (simp only [List.length_set, hl]; omega) | omega | rfl)) only [sL, aEval_tmp]); rfl)) ?_
      repeat (first | (with_reducible refine Wp.st ?_; simp only [wS]) | with_reducible refine Wp.drawS (by decide +kernel) ?_ | simp (disch := (first | (simp only [List.length_set, hl]; omega) | omega | rfl)) only [walkA, walkB, bne_self_eq_false, beq_self_eq_true, Option.map_some, Option.map_none, reduceIte, decide_true, decide_false, Int.reduceLT, Int.reduceLE, Int.reduceMul, Int.reduceAdd, Int.reduceSub, faA0, q1])
      exact ⟨by trivial, by simp [hl], by first | trivial | ((simp (disch := (first | (simp only [List.length_set, hl]; omega) | omega | rfl)) only [sL, h1])), by first | trivial | ((simp (disch := (first | (simp only [List.length_set, hl]; omega) | omega | rfl)) only [sL, h5])), by first | trivial | ((simp (disch := (first | (simp only [List.length_set, hl]; omega) | omega | rfl)) only [sL])), by first | trivial | ((simp (disch := (first | (simp only [List.length_set, hl]; omega) | omega | rfl)) only [sL])), .slice none 0 0, ⟨_, _, _, rfl⟩, q2, Row.nil _⟩
    · skip
      have q := s2.st (P := Try.prog) (t := 9) iStr rfl 2 (by decide) (v := .string (zb m)) rfl rfl
      have q1 := q.1
      have q2 := q.2.hd
      clear q
      refine Wp.cond_false (by first | ((simp (disch := (first | (simp only [List.length_set, hl]; omega) | omega | rfl)) only [sL, aEval_tmp]); done) | ((simp (disch := (first | (simp only [List.length_set, hl]; omega) | omega | rfl)) only [sL, aEval_tmp]); rfl)) ?_
      repeat (first | (with_reducible refine Wp.st ?_; simp only [wS]) | with_reducible refine Wp.drawS (by decide +kernel) ?_ | simp (disch := (first | (simp only [List.length_set, hl]; omega) | omega | rfl)) only [walkA, walkB, bne_self_eq_false, beq_self_eq_true, Option.map_some, Option.map_none, reduceIte, decide_true, decide_false, Int.reduceLT, Int.reduceLE, Int.reduceMul, Int.reduceAdd, Int.reduceSub, faA2, q1])
      refine Wp.cond_true (by first | ((simp (disch := (first | (simp only [List.length_set, hl]; omega) | omega | rfl)) only [sL, aEval_tmp]); done) | ((simp (disch := (first | (simp only [List.length_set, hl]; omega) | omega | rfl)) only [sL, aEval_tmp]); rfl)) ?_
      repeat (first | (with_reducible refine Wp.st ?_; simp only [wS]) | with_reducible refine Wp.drawS (by decide +kernel) ?_ | simp (disch := (first | (simp only [List.length_set, hl]; omega) | omega | rfl)) only [walkA, walkB, bne_self_eq_false, beq_self_eq_true, Option.map_some, Option.map_none, reduceIte, decide_true, decide_false, Int.reduceLT, Int.reduceLE, Int.reduceMul, Int.reduceAdd, Int.reduceSub, faA2, q1])
      exact ⟨by trivial, by simp [hl], by first | trivial | ((simp (disch := (first | (simp only [List.length_set, hl]; omega) | omega | rfl)) only [sL, h1])), by first | trivial | ((simp (disch := (first | (simp only [List.length_set, hl]; omega) | omega | rfl)) only [sL, h5])), by first | trivial | ((simp (disch := (first | (simp only [List.length_set, hl]; omega) | omega | rfl)) only [sL])), by first | trivial | ((simp (disch := (first | (simp only [List.length_set, hl]; omega) | omega | rfl)) only [sL])), .slice none 0 0, ⟨_, _, _, rfl⟩, q2, Row.nil _⟩
    · skip
      have q := s2.st (P := Try.prog) (t := 9) iStr rfl 4 (by decide) (v := .string (zb m)) rfl rfl
      have q1 := q.1
      have q2 := q.2.hd
      clear q
      refine Wp.cond_false (by first | ((simp (disch := (first | (simp only [List.length_set, hl]; omega) | omega | rfl)) only [sL, aEval_tmp]); done) | ((simp (disch := (first | (simp only [List.length_set, hl]; omega) | omega | rfl)) only [sL, aEval_tmp]); rfl)) ?_
      repeat (first | (with_reducible refine Wp.st ?_; simp only [wS]) | with_reducible refine Wp.drawS (by decide +kernel) ?_ | simp (disch := (first | (simp only [List.length_set, hl]; omega) | omega | rfl)) only [walkA, walkB, bne_self_eq_false, beq_self_eq_true, Option.map_some, Option.map_none, reduceIte, decide_true, decide_false, Int.reduceLT, Int.reduceLE, Int.reduceMul, Int.reduceAdd, Int.reduceSub, faA4, q1])
      refine Wp.cond_false (by first | ((simp (disch := (first | (simp only [List.length_set, hl]; omega) | omega | rfl)) only [sL, aEval_tmp]); done) | ((simp (disch := (first | (simp only [List.length_set, hl]; omega) | omega | rfl)) only [sL, aEval_tmp]); rfl)) ?_
      repeat (first | (with_reducible refine Wp.st ?_; simp only [wS]) | with_reducible refine Wp.drawS (by decide +kernel) ?_ | simp (disch := (first | (simp only [List.length_set, hl]; omega) | omega | rfl)) only [walkA, walkB, bne_self_eq_false, beq_self_eq_true, Option.map_some, Option.map_none, reduceIte, decide_true, decide_false, Int.reduceLT, Int.reduceLE, Int.reduceMul, Int.reduceAdd, Int.reduceSub, faA4, q1])
      refine Wp.cond_true (by first | ((simp (disch := (first | (simp only [List.length_set, hl]; omega) | omega | rfl)) only [sL, aEval_tmp]); done) | ((simp (disch := (first | (simp only [List.length_set, hl]; omega) | omega | rfl)) only [sL, aEval_tmp]); rfl)) ?_
      repeat (first | (with_reducible refine Wp.st ?_; simp only [wS]) | with_reducible refine Wp.drawS (by decide +kernel) ?_ | simp (disch := (first | (simp only [List.length_set, hl]; omega) | omega | rfl)) only [walkA, walkB, bne_self_eq_false, beq_self_eq_true, Option.map_some, Option.map_none, reduceIte, decide_true, decide_false, Int.reduceLT, Int.reduceLE, Int.reduceMul, Int.reduceAdd, Int.reduceSub, faA4, q1])
      exact ⟨by trivial, by simp [hl], by first | trivial | ((simp (disch := (first | (simp only [List.length_set, hl]; omega) | omega | rfl)) only [sL, h1])), by first | trivial | ((simp (disch := (first | (simp only [List.length_set, hl]; omega) | omega | rfl)) only [sL, h5])), by first | trivial | ((simp (disch := (first | (simp only [List.length_set, hl]; omega) | omega | rfl)) only [sL])), by first | trivial | ((simp (disch := (first | (simp only [List.length_set, hl]; omega) | omega | rfl)) only [sL])), .slice none 0 0, ⟨_, _, _, rfl⟩, q2, Row.nil _⟩
    · skip
      obtain ⟨dv, cv2, edv⟩ := conved hE m (by omega)
      have s3 := (s2.push (strB (zb m)) 5).swap
      have q := s3.st (P := Try.prog) (t := 22) iRow rfl 28 (by decide) (v := dv) (by rw [edv]; rfl) (by rw [edv]; rfl)
      have q1 := q.1
      have q2 := q.2.hd
      have q3 := q.2.swap.hd
      clear q
      refine Wp.cond_false (by first | ((simp (disch := (first | (simp only [List.length_set, hl]; omega) | omega | rfl)) only [sL, aEval_tmp]); done) | ((simp (disch := (first | (simp only [List.length_set, hl]; omega) | omega | rfl)) only [sL, aEval_tmp]); rfl)) ?_
      repeat (first | (with_reducible refine Wp.st ?_; simp only [wS]) | with_reducible refine Wp.drawS (by decide +kernel) ?_ | simp (disch := (first | (simp only [List.length_set, hl]; omega) | omega | rfl)) only [walkA, walkB, bne_self_eq_false, beq_self_eq_true, Option.map_some, Option.map_none, reduceIte, decide_true, decide_false, Int.reduceLT, Int.reduceLE, Int.reduceMul, Int.reduceAdd, Int.reduceSub, faA14, q1, cv2])
      refine Wp.cond_false (by first | ((simp (disch := (first | (simp only [List.length_set, hl]; omega) | omega | rfl)) only [sL, aEval_tmp]); done) | ((simp (disch := (first | (simp only [List.length_set, hl]; omega) | omega | rfl)) only [sL, aEval_tmp]); rfl)) ?_
      repeat (first | (with_reducible refine Wp.st ?_; simp only [wS]) | with_reducible refine Wp.drawS (by decide +kernel) ?_ | simp (disch := (first | (simp only [List.length_set, hl]; omega) | omega | rfl)) only [walkA, walkB, bne_self_eq_false, beq_self_eq_true, Option.map_some, Option.map_none, reduceIte, decide_true, decide_false, Int.reduceLT, Int.reduceLE, Int.reduceMul, Int.reduceAdd, Int.reduceSub, faA14, q1, cv2])
      refine Wp.cond_false (by first | ((simp (disch := (first | (simp only [List.length_set, hl]; omega) | omega | rfl)) only [sL, aEval_tmp]); done) | ((simp (disch := (first | (simp only [List.length_set, hl]; omega) | omega | rfl)) only [sL, aEval_tmp]); rfl)) ?_
      repeat (first | (with_reducible refine Wp.st ?_; simp only [wS]) | with_reducible refine Wp.drawS (by decide +kernel) ?_ | simp (disch := (first | (simp only [List.length_set, hl]; omega) | omega | rfl)) only [walkA, walkB, bne_self_eq_false, beq_self_eq_true, Option.map_some, Option.map_none, reduceIte, decide_true, decide_false, Int.reduceLT, Int.reduceLE, Int.reduceMul, Int.reduceAdd, Int.reduceSub, faA14, q1, cv2])
      refine Wp.cond_true (by first | ((simp (disch := (first | (simp only [List.length_set, hl]; omega) | omega | rfl)) only [sL, aEval_tmp]); done) | ((simp (disch := (first | (simp only [List.length_set, hl]; omega) | omega | rfl)) only [sL, aEval_tmp]); rfl)) ?_
      repeat (first | (with_reducible refine Wp.st ?_; simp only [wS]) | with_reducible refine Wp.drawS (by decide +kernel) ?_ | simp (disch := (first | (simp only [List.length_set, hl]; omega) | omega | rfl)) only [walkA, walkB, bne_self_eq_false, beq_self_eq_true, Option.map_some, Option.map_none, reduceIte, decide_true, decide_false, Int.reduceLT, Int.reduceLE, Int.reduceMul, Int.reduceAdd, Int.reduceSub, faA14, q1, cv2])
      exact ⟨by trivial, by simp [hl], by first | trivial | ((simp (disch := (first | (simp only [List.length_set, hl]; omega) | omega | rfl)) only [sL, h1])), by first | trivial | ((simp (disch := (first | (simp only [List.length_set, hl]; omega) | omega | rfl)) only [sL, h5])), by first | trivial | ((simp (disch := (first | (simp only [List.length_set, hl]; omega) | omega | rfl)) only [sL])), by first | trivial | ((simp (disch := (first | (simp only [List.length_set, hl]; omega) | omega | rfl)) only [sL])), dv, ⟨_, _, _, edv⟩, q2, row_of q3 edv (by show (strB (zb m)).length = m; rw [strB_len, zb_size])⟩
  clear h0 h1 h5 hl mk cv p1 p2 b8 y1 y2 r8 s2 s0 r9 eE env
  rintro ax env h' ⟨rfl, hl, h1, h5, h7, h8, dv, hdv, g, rd⟩
  have la := ldArgs g (AR.len _)
  repeat (first | (with_reducible refine Wp.st ?_; simp only [wS]) | with_reducible refine Wp.drawS (by decide +kernel) ?_ | simp (disch := (first | (simp only [List.length_set, hl]; omega) | omega | rfl)) only [walkA, walkB, bne_self_eq_false, beq_self_eq_true, Option.map_some, Option.map_none, reduceIte, decide_true, decide_false, Int.reduceLT, Int.reduceLE, Int.reduceMul, Int.reduceAdd, Int.reduceSub, h1, h5, h7, h8, la])
  refine (writeArgs_am (lP k) (lA k m dv) (lA_ok k m hk hm dv hdv) h' (by rw [lA_dv]; exact rd)).mono ?_
  intro v hF q
  obtain ⟨bv, ev, ob, sF, _⟩ := q
  rw [ev]
  clear ev
  replace g := sF.got g
  replace rd := rd.on sF
  have rb := ob.row
  clear ob sF la
  rw [wrArgs_z k m dv hk] at rb ⊢
  by_cases hle : (m : Int) ≤ lM k
  · rw [if_pos hle] at rb ⊢
    have dl : decide ((m : Int) > lM k) = false := by simp; omega
    repeat (first | (with_reducible refine Wp.st ?_; simp only [wS]) | with_reducible refine Wp.drawS (by decide +kernel) ?_ | simp (disch := (first | (simp only [List.length_set, hl]; omega) | omega | rfl)) only [walkA, walkB, bne_self_eq_false, beq_self_eq_true, Option.map_some, Option.map_none, reduceIte, decide_true, decide_false, Int.reduceLT, Int.reduceLE, Int.reduceMul, Int.reduceAdd, Int.reduceSub, h1, h5, h7, h8, ext0, ext1, dl])
    refine Wp.cond_false (by first | ((simp (disch := (first | (simp only [List.length_set, hl]; omega) | omega | rfl)) only [sL, aEval_tmp]); done) | ((simp (disch := (first | (simp only [List.length_set, hl]; omega) | omega | rfl)) only [sL, aEval_tmp]); rfl)) ?_
    repeat (first | (with_reducible refine Wp.st ?_; simp only [wS]) | with_reducible refine Wp.drawS (by decide +kernel) ?_ | simp (disch := (first | (simp only [List.length_set, hl]; omega) | omega | rfl)) only [walkA, walkB, bne_self_eq_false, beq_self_eq_true, Option.map_some, Option.map_none, reduceIte, decide_true, decide_false, Int.reduceLT, Int.reduceLE, Int.reduceMul, Int.reduceAdd, Int.reduceSub, h1, h5, h7, h8, ext0, ext1])
    obtain ⟨cs, er, ec⟩ := rdArgs_z k m hk hle
    have zl : (zi (lZ k) ++ zT m).length ≤ 1000000000 := by
      rw [List.length_append, zi_len, zT_len]
      have := pad_le m
      have : lZ k ≤ 32 := by unfold lZ; split <;> omega
      omega
    refine (readArgs_am (lP k) bv (zi (lZ k) ++ zT m) hF rb zl (zT_by k m)).mono ?_
    intro v hG q
    obtain ⟨dv2, ev, ob, sG⟩ := q
    rw [ev, er]
    clear ev
    rw [er] at ob
    obtain ⟨xx, xc, ed⟩ := row_len ob.1.row
    have hdv2 : ∃ x n c, dv2 = .slice x n c := ⟨_, _, _, ed⟩
    rw [ec]
    have wf2 := lA_wf k m hk dv2 hdv2
    have one2 := (lA k m dv2).one (lA_ok k m hk hm dv2 hdv2)
    obtain ⟨hH, st, g2, sH⟩ := laidArgs (h := hG) (AR.len (lA k m dv2)) one2
    have alG := alArgs (h := hG)
    have rd2 := ob.1.row.on sH
    replace rd := rd.on (sG.tr sH)
    replace g := sH.got (sG.got g)
    have l2 := ldArgs g2 (AR.len _)
    have l1 := ldArgs g (AR.len _)
    repeat (first | (with_reducible refine Wp.st ?_; simp only [wS]) | with_reducible refine Wp.drawS (by decide +kernel) ?_ | simp (disch := (first | (simp only [List.length_set, hl]; omega) | omega | rfl)) only [walkA, walkB, bne_self_eq_false, beq_self_eq_true, Option.map_some, Option.map_none, reduceIte, decide_true, decide_false, Int.reduceLT, Int.reduceLE, Int.reduceMul, Int.reduceAdd, Int.reduceSub, h1, h5, h7, h8, ext0, ext1, alG, st, l1, l2])
    refine Cl.mono (sameArgs_am (lA k m dv2) (lA k m dv) (lD k m) (lD k m) hH (by rw [lA_dv]; exact hdv2) (by rw [lA_dv]; exact hdv) (lA_data m dv2 hk) (lA_data m dv hk) (by rw [lA_dv, lA_data m dv2 hk]; exact rd2) (by rw [lA_dv]; exact rd) (by have := lD_len k m; omega)) ?_
    intro v hI q
    rw [q.1, AR.eq_of _ _ (lA_data m dv2 hk) (lA_data m dv hk) wf2.dStr (lA_wf k m hk dv hdv).dStr, lA_eq]
    repeat (first | (with_reducible refine Wp.st ?_; simp only [wS]) | with_reducible refine Wp.drawS (by decide +kernel) ?_ | simp (disch := (first | (simp only [List.length_set, hl]; omega) | omega | rfl)) only [walkA, walkB, bne_self_eq_false, beq_self_eq_true, Option.map_some, Option.map_none, reduceIte, decide_true, decide_false, Int.reduceLT, Int.reduceLE, Int.reduceMul, Int.reduceAdd, Int.reduceSub])
    simp (disch := (first | (simp only [List.length_set, hl]; omega) | omega | rfl)) only [aRes_one Try.results5, sL]
  · rw [if_neg hle] at rb ⊢
    have dl : decide ((m : Int) > lM k) = true := by simp; omega
    have hlen := len_any rb Try.underlying22
    simp only [List.length_nil] at hlen
    repeat (first | (with_reducible refine Wp.st ?_; simp only [wS]) | with_reducible refine Wp.drawS (by decide +kernel) ?_ | simp (disch := (first | (simp only [List.length_set, hl]; omega) | omega | rfl)) only [walkA, walkB, bne_self_eq_false, beq_self_eq_true, Option.map_some, Option.map_none, reduceIte, decide_true, decide_false, Int.reduceLT, Int.reduceLE, Int.reduceMul, Int.reduceAdd, Int.reduceSub, h1, h5, h7, h8, ext0, ext1, dl])
    refine Wp.cond_true (by first | ((simp (disch := (first | (simp only [List.length_set, hl]; omega) | omega | rfl)) only [sL, aEval_tmp]); done) | ((simp (disch := (first | (simp only [List.length_set, hl]; omega) | omega | rfl)) only [sL, aEval_tmp]); rfl)) ?_
    repeat (first | (with_reducible refine Wp.st ?_; simp only [wS]) | with_reducible refine Wp.drawS (by decide +kernel) ?_ | simp (disch := (first | (simp only [List.length_set, hl]; omega) | omega | rfl)) only [walkA, walkB, bne_self_eq_false, beq_self_eq_true, Option.map_some, Option.map_none, reduceIte, decide_true, decide_false, Int.reduceLT, Int.reduceLE, Int.reduceMul, Int.reduceAdd, Int.reduceSub, h1, h5, h7, h8, hlen])
    simp (disch := (first | (simp only [List.length_set, hl]; omega) | omega | rfl)) only [aRes_one Try.results5, sL]
    rfl
end Go.Proofs.Ytanknjpcgceccaa

namespace Go.Proofs.Ytanknjpcgceccaa
open Go Go.AM Go.RowKit Go.ChangeShapes
set_option linter.unusedSimpArgs false
set_option maxRecDepth 100000
theorem wf_int {x : Int} (h : (Lit.int .i64 x).wf = true) : -9223372036854775808 ≤ x ∧ x ≤ 9223372036854775807 := by
  simp [Lit.wf, IntKind.min, IntKind.max, IntKind.bits, IntKind.signed] at h
  omega
theorem nfsxLimits_lifted (os : Os) (started : os.Started) (H : Type) (enc : TypeId × Value → H) :
    ReturnsInHanded {} Try.checked os 5 .any (Rows.nfsxLimitsSpec.pre6 enc Try.prog Try.f5 Rows.nfsxLimitsRow.domain false) (Rows.nfsxLimitsSpec.post enc Try.prog Try.f5 false true false false) := by
  refine returnsInHanded_of_change (C := Try.checked) own_knob started (by kernel_rfl) Try.func5
    (ChangeSpec.witness6 (enc := enc) (C := Try.checked) false ⟨#[], #[.int .i64 0, .int .i64 0], []⟩ 8 (by kernel_rfl) (by kernel_rfl) (by kernel_rfl) (by kernel_rfl)) ?_
  intro W base args ds gs before hval hW _ _
  have hd : ds.length = 2 := by
    obtain ⟨p, q, hA0, _⟩ := hW
    have hA : DataW.TrodAll enc Try.prog W 0 (fun _ => true) true Try.f5.params.toList args.toList ds p := hA0
    rw [Try.params5] at hA
    exact trodAll_len _ _ _ _ hA
  match ds, hd with
  | [d0, d1], _ =>
  refine law_true (P := Try.prog) (n := 6) (tb := 4) good laid_out rfl (base := base) hval hW rfl ?_ rfl Try.underlying4 rfl ?_
  · intro t ht
    rw [Try.params5] at ht
    have : t = 3 ∨ t = 3 := by simpa using ht
    rcases this with rfl | rfl <;> exact ⟨by kernel_rfl, by kernel_rfl, of_decide_eq_true (by kernel_rfl)⟩
  · intro h av hl hr hag
    rw [Try.params5] at hl hr hag
    match av, hl with
    | [a0, a1], _ =>
      have r0 := hr 0 _ a0 d0 rfl rfl rfl
      have g0 := fun (c : Array Value) (hc : a0 = .agg c) => hag 0 _ c rfl (by rw [hc]; rfl)
      have r1 := hr 1 _ a1 d1 rfl rfl rfl
      have g1 := fun (c : Array Value) (hc : a1 = .agg c) => hag 1 _ c rfl (by rw [hc]; rfl)
      clear hr hag hval hW
      obtain ⟨x0, e0, w0⟩ := ard_int Try.underlying3 r0
      obtain ⟨x1, e1, w1⟩ := ard_int Try.underlying3 r1
      have q0 : a0 = .int .i64 x0 := one_of e0 Try.underlying3 (by simp) (by simp) g0
      have q1 : a1 = .int .i64 x1 := one_of e1 Try.underlying3 (by simp) (by simp) g1
      subst q0; subst q1
      exact nfsxLimits_am x0 x1 (wf_int w0).1 (wf_int w0).2 (wf_int w1).1 (wf_int w1).2 h
theorem nfsxLimits_holds : Rows.NfsxLimitsSaid :=
  OpenClaim.holds_of_wide 5 Try.f5 rfl rfl rfl rfl rfl rfl rfl ⟨rfl, rfl, rfl, rfl, rfl⟩ rfl rfl rfl rfl rfl (by kernel_rfl) Try.func5 (by kernel_rfl)
    (of_decide_eq_true (by kernel_rfl)) (by unfold Func.isWrapper; first | (rw [if_pos (by decide +kernel)]; kernel_rfl) | (rw [if_neg (by decide +kernel)]; exact ⟨rfl, rfl⟩))
    (fun os started H enc _ => nfsxLimits_lifted os started H enc)
end Go.Proofs.Ytanknjpcgceccaa
