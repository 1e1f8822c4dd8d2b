/- What the coder's primitives come to where it reads, over the abstract machine. -/
import Derived.Test.YtanknjpcgceccaaSame5
import Derived.Test.YtanknjpcgceccaaSame7
import Derived.Test.YtanknjpcgceccaaRows

namespace Go.Proofs.Ytanknjpcgceccaa
open Go Go.AM
set_option linter.unusedSimpArgs false
set_option maxRecDepth 100000
abbrev TC : TypeId := 69
abbrev TRd : TypeId := 113
section
variable {k off : Nat}
theorem faC1 : aFieldAddr Try.prog 69 (.pointer (some ⟨k, off, none⟩)) 1 = some (.pointer (some ⟨k, off + 1, none⟩)) := by kernel_rfl
theorem faC2 : aFieldAddr Try.prog 69 (.pointer (some ⟨k, off, none⟩)) 2 = some (.pointer (some ⟨k, off + 2, none⟩)) := by kernel_rfl
theorem faT0 : aFieldAddr Try.prog 26 (.pointer (some ⟨k, off, none⟩)) 0 = some (.pointer (some ⟨k, off, none⟩)) := by kernel_rfl
theorem faT1 : aFieldAddr Try.prog 26 (.pointer (some ⟨k, off, none⟩)) 1 = some (.pointer (some ⟨k, off + 1, none⟩)) := by kernel_rfl
end
theorem pw_np {xo yo : Operand} {a : Addr} : aBin Try.prog .neq 67 xo yo (.pointer (some a)) (.pointer none) = some (.bool true) := by kernel_rfl
theorem pw_ep {xo yo : Operand} {a : Addr} : aBin Try.prog .eql 67 xo yo (.pointer (some a)) (.pointer none) = some (.bool false) := by kernel_rfl
theorem iB : Try.prog.info? 4 = some Try.t4 := by kernel_rfl
theorem iU32 : Try.prog.info? 23 = some Try.t23 := by kernel_rfl
theorem iU64 : Try.prog.info? 24 = some Try.t24 := by kernel_rfl
theorem iStr : Try.prog.info? 9 = some Try.t9 := by kernel_rfl
theorem iRow : Try.prog.info? 22 = some Try.t22 := by kernel_rfl
theorem iPU32 : Try.prog.info? 123 = some Try.t123 := by kernel_rfl
theorem iPU64 : Try.prog.info? 125 = some Try.t125 := by kernel_rfl
abbrev pt (k o : Nat) : Value := .pointer (some ⟨k, o, none⟩)
structure CR (Z : Nat → Prop) (H0 h : Heap) (kc kr : Nat) (bv : Value) (bs : List Int) (s : Nat × Int) (bad : Bool) (L : List Blk) : Prop where
  st : St Z H0 h ((kc, [pt kr 0, .pointer none, .bool bad], TC) :: (kr, [bv, .int .i64 s.1, .int .i64 s.2], TRd) :: L)
  row : RowX H0 5 bv (bs.map (Value.int .u8))
  z : ∀ a n c, bv = .slice (some a) n c → n ≠ 0 → Z a.block
  len : bs.length ≤ 1000000000
  pos : s.1 ≤ bs.length
  byte : ∀ b ∈ bs, 0 ≤ b ∧ b < 256
theorem must_am (is bad : Bool) (rp wp : Value) (Z : Nat → Prop) (H0 h : Heap) (kc : Nat) (L : List Blk) (s : St Z H0 h ((kc, [rp, wp, .bool bad], TC) :: L)) :
    Cl Try.prog 70 [pt kc 0, .bool is] h fun v h' => v = .tuple #[] ∧ St Z H0 h' ((kc, [rp, wp, .bool (bad || !is)], TC) :: L) := by
  refine Cl.enter Try.func70 rfl 15 Try.ntmps70 (by simp) ?_
  intro env hl ha
  have h0 : sl env 0 = pt kc 0 := ha 0 (by simp)
  have h1 : sl env 1 = .bool is := ha 1 (by simp)
  clear ha
  have lb : aLoad Try.prog h 4 (.pointer (some ⟨kc, 0 + 2, none⟩)) = some (.bool bad) := by rw [s.ld Try.underlying4 (by simp) (by simp)]; rfl
  have sb := fun b : Bool => s.st iB rfl (0 + 2) (by simp) (v := .bool b) rfl rfl
  cases bad with
  | true =>
    have s1 := (sb true).1
    repeat (first | (with_reducible refine Wp.st ?_; simp only [wS]) | with_reducible refine Wp.drawS (by decide +kernel) ?_ | simp (disch := (first | (simp only [List.length_set, hl]; omega) | omega | rfl)) only [walkA, walkB, bne_self_eq_false, beq_self_eq_true, Option.map_some, Option.map_none, reduceIte, decide_true, decide_false, Int.reduceLT, Int.reduceLE, Int.reduceMul, Int.reduceAdd, Int.reduceSub, h0, h1, faC2, lb, s1])
    simp only [aRes_none Try.results70]
    exact ⟨trivial, (sb true).2⟩
  | false =>
    have s1 := (sb (!is)).1
    repeat (first | (with_reducible refine Wp.st ?_; simp only [wS]) | with_reducible refine Wp.drawS (by decide +kernel) ?_ | simp (disch := (first | (simp only [List.length_set, hl]; omega) | omega | rfl)) only [walkA, walkB, bne_self_eq_false, beq_self_eq_true, Option.map_some, Option.map_none, reduceIte, decide_true, decide_false, Int.reduceLT, Int.reduceLE, Int.reduceMul, Int.reduceAdd, Int.reduceSub, h0, h1, faC2, lb, s1])
    simp only [aRes_none Try.results70]
    exact ⟨trivial, (sb (!is)).2⟩
section
variable {Z : Nat → Prop} {H0 h h' : Heap} {kc kr : Nat} {bv : Value} {bs : List Int} {s s' : Nat × Int} {bad : Bool} {L : List Blk} {kt o : Nat} {cs : List Value} {T : TypeId}
theorem CR.rd (c : CR Z H0 h kc kr bv bs s bad L) : RdOK h kr TRd bv bs s :=
  ⟨c.st.tail.hd, c.st.stayedX c.row c.z, fun a n d e hn x => c.st.tail.off (kr, [bv, .int .i64 s.1, .int .i64 s.2], TRd) (by simp) (x ▸ c.z a n d e hn), c.len, c.pos, c.byte⟩
theorem CR.read (c : CR Z H0 h kc kr bv bs s bad L) (r : RdOK h' kr TRd bv bs s') (hs : Same h h' (onlyS kr)) : CR Z H0 h' kc kr bv bs s' bad L :=
  ⟨(c.st.swap.upd hs r.rd).swap, c.row, c.z, c.len, r.pos, c.byte⟩
theorem CR.lw (c : CR Z H0 h kc kr bv bs s bad L) : aLoad Try.prog h 67 (.pointer (some ⟨kc, 0 + 1, none⟩)) = some (.pointer none) := by rw [c.st.ld Try.underlying67 (by simp) (by simp)]; rfl
theorem CR.lb (c : CR Z H0 h kc kr bv bs s bad L) : aLoad Try.prog h 4 (.pointer (some ⟨kc, 0 + 2, none⟩)) = some (.bool bad) := by rw [c.st.ld Try.underlying4 (by simp) (by simp)]; rfl
theorem CR.ld {t : TypeId} {d : TypeDesc} (c : CR Z H0 h kc kr bv bs s bad ((kt, cs, T) :: L)) (hu : Try.prog.underlying t = some d) (h1 : ∀ fs, d ≠ .struct fs) (h2 : ∀ n e, d ≠ .array n e) (o : Nat) : aLoad Try.prog h t (pt kt o) = cs[o]? :=
  c.st.rot3'.ld hu h1 h2 o
theorem CR.put {t : TypeId} {i : TypeInfo} {v : Value} (c : CR Z H0 h kc kr bv bs s bad ((kt, cs, T) :: L)) (hi : Try.prog.info? t = some i) (hs : i.size = 1) (o : Nat) (ho : o < cs.length) (hv : v.cells = #[v]) (h1 : v.oneCell' = true) :
    aStore Try.prog h t (pt kt o) v = some (h.set kt (.cells (cs.set o v) T false)) ∧ CR Z H0 (h.set kt (.cells (cs.set o v) T false)) kc kr bv bs s bad ((kt, cs.set o v, T) :: L) := by
  have q := c.st.rot3'.st (P := Try.prog) hi hs o ho hv h1
  exact ⟨q.1, ⟨q.2.rot3, c.row, c.z, c.len, c.pos, c.byte⟩⟩
theorem CR.alloc (c : CR Z H0 h kc kr bv bs s bad L) (cs : List Value) (T : TypeId) : CR Z H0 (h.push (.cells cs T false)) kc kr bv bs s bad ((h.next, cs, T) :: L) :=
  ⟨(c.st.push cs T).rot3, c.row, c.z, c.len, c.pos, c.byte⟩
theorem CR.drop {x : Blk} (c : CR Z H0 h kc kr bv bs s bad (x :: L)) : CR Z H0 h kc kr bv bs s bad L := ⟨c.st.drop3, c.row, c.z, c.len, c.pos, c.byte⟩
theorem CR.swap {x y : Blk} (c : CR Z H0 h kc kr bv bs s bad (x :: y :: L)) : CR Z H0 h kc kr bv bs s bad (y :: x :: L) := ⟨c.st.perm (((List.Perm.swap _ _ _).cons _).cons _), c.row, c.z, c.len, c.pos, c.byte⟩
theorem CR.same (c : CR Z H0 h kc kr bv bs s bad L) (hs : Same h h' noS) : CR Z H0 h' kc kr bv bs s bad L := ⟨c.st.same hs, c.row, c.z, c.len, c.pos, c.byte⟩
end
section
variable (Z : Nat → Prop) (H0 h : Heap) (kc kr : Nat) (bv : Value) (bs : List Int) (s : Nat × Int) (bad : Bool) (L : List Blk) (kt o : Nat) (cs : List Value) (T : TypeId)
end
section
variable (Z : Nat → Prop) (H0 h : Heap) (kc kr : Nat) (bv : Value) (bs : List Int) (s : Nat × Int) (bad : Bool) (L : List Blk) (kt o : Nat) (cs : List Value) (T kl : Nat) (Tp : TypeId)
end
end Go.Proofs.Ytanknjpcgceccaa

namespace Go.Proofs.Ytanknjpcgceccaa
open Go Go.AM
set_option linter.unusedSimpArgs false
set_option maxRecDepth 100000
theorem faS0 {k off : Nat} : aFieldAddr Try.prog 28 (.pointer (some ⟨k, off, none⟩)) 0 = some (.pointer (some ⟨k, off, none⟩)) := by kernel_rfl
theorem faS1 {k off : Nat} : aFieldAddr Try.prog 28 (.pointer (some ⟨k, off, none⟩)) 1 = some (.pointer (some ⟨k, off + 1, none⟩)) := by kernel_rfl
theorem faS2 {k off : Nat} : aFieldAddr Try.prog 28 (.pointer (some ⟨k, off, none⟩)) 2 = some (.pointer (some ⟨k, off + 2, none⟩)) := by kernel_rfl
theorem faS3 {k off : Nat} : aFieldAddr Try.prog 28 (.pointer (some ⟨k, off, none⟩)) 3 = some (.pointer (some ⟨k, off + 3, none⟩)) := by kernel_rfl
theorem faS4 {k off : Nat} : aFieldAddr Try.prog 28 (.pointer (some ⟨k, off, none⟩)) 4 = some (.pointer (some ⟨k, off + 4, none⟩)) := by kernel_rfl
theorem faS5 {k off : Nat} : aFieldAddr Try.prog 28 (.pointer (some ⟨k, off, none⟩)) 5 = some (.pointer (some ⟨k, off + 5, none⟩)) := by kernel_rfl
theorem faS6 {k off : Nat} : aFieldAddr Try.prog 28 (.pointer (some ⟨k, off, none⟩)) 6 = some (.pointer (some ⟨k, off + 6, none⟩)) := by kernel_rfl
theorem faS7 {k off : Nat} : aFieldAddr Try.prog 28 (.pointer (some ⟨k, off, none⟩)) 7 = some (.pointer (some ⟨k, off + 7, none⟩)) := by kernel_rfl
theorem faS8 {k off : Nat} : aFieldAddr Try.prog 28 (.pointer (some ⟨k, off, none⟩)) 8 = some (.pointer (some ⟨k, off + 8, none⟩)) := by kernel_rfl
theorem faS9 {k off : Nat} : aFieldAddr Try.prog 28 (.pointer (some ⟨k, off, none⟩)) 9 = some (.pointer (some ⟨k, off + 9, none⟩)) := by kernel_rfl
theorem faS10 {k off : Nat} : aFieldAddr Try.prog 28 (.pointer (some ⟨k, off, none⟩)) 10 = some (.pointer (some ⟨k, off + 10, none⟩)) := by kernel_rfl
theorem faS11 {k off : Nat} : aFieldAddr Try.prog 28 (.pointer (some ⟨k, off, none⟩)) 11 = some (.pointer (some ⟨k, off + 12, none⟩)) := by kernel_rfl
theorem faA0 {k off : Nat} : aFieldAddr Try.prog 30 (.pointer (some ⟨k, off, none⟩)) 0 = some (.pointer (some ⟨k, off, none⟩)) := by kernel_rfl
theorem faA1 {k off : Nat} : aFieldAddr Try.prog 30 (.pointer (some ⟨k, off, none⟩)) 1 = some (.pointer (some ⟨k, off + 1, none⟩)) := by kernel_rfl
theorem faA2 {k off : Nat} : aFieldAddr Try.prog 30 (.pointer (some ⟨k, off, none⟩)) 2 = some (.pointer (some ⟨k, off + 2, none⟩)) := by kernel_rfl
theorem faA3 {k off : Nat} : aFieldAddr Try.prog 30 (.pointer (some ⟨k, off, none⟩)) 3 = some (.pointer (some ⟨k, off + 3, none⟩)) := by kernel_rfl
theorem faA4 {k off : Nat} : aFieldAddr Try.prog 30 (.pointer (some ⟨k, off, none⟩)) 4 = some (.pointer (some ⟨k, off + 4, none⟩)) := by kernel_rfl
theorem faA5 {k off : Nat} : aFieldAddr Try.prog 30 (.pointer (some ⟨k, off, none⟩)) 5 = some (.pointer (some ⟨k, off + 5, none⟩)) := by kernel_rfl
theorem faA6 {k off : Nat} : aFieldAddr Try.prog 30 (.pointer (some ⟨k, off, none⟩)) 6 = some (.pointer (some ⟨k, off + 19, none⟩)) := by kernel_rfl
theorem faA7 {k off : Nat} : aFieldAddr Try.prog 30 (.pointer (some ⟨k, off, none⟩)) 7 = some (.pointer (some ⟨k, off + 20, none⟩)) := by kernel_rfl
theorem faA8 {k off : Nat} : aFieldAddr Try.prog 30 (.pointer (some ⟨k, off, none⟩)) 8 = some (.pointer (some ⟨k, off + 22, none⟩)) := by kernel_rfl
theorem faA9 {k off : Nat} : aFieldAddr Try.prog 30 (.pointer (some ⟨k, off, none⟩)) 9 = some (.pointer (some ⟨k, off + 23, none⟩)) := by kernel_rfl
theorem faA10 {k off : Nat} : aFieldAddr Try.prog 30 (.pointer (some ⟨k, off, none⟩)) 10 = some (.pointer (some ⟨k, off + 24, none⟩)) := by kernel_rfl
theorem faA11 {k off : Nat} : aFieldAddr Try.prog 30 (.pointer (some ⟨k, off, none⟩)) 11 = some (.pointer (some ⟨k, off + 25, none⟩)) := by kernel_rfl
theorem faA12 {k off : Nat} : aFieldAddr Try.prog 30 (.pointer (some ⟨k, off, none⟩)) 12 = some (.pointer (some ⟨k, off + 26, none⟩)) := by kernel_rfl
theorem faA13 {k off : Nat} : aFieldAddr Try.prog 30 (.pointer (some ⟨k, off, none⟩)) 13 = some (.pointer (some ⟨k, off + 27, none⟩)) := by kernel_rfl
theorem faA14 {k off : Nat} : aFieldAddr Try.prog 30 (.pointer (some ⟨k, off, none⟩)) 14 = some (.pointer (some ⟨k, off + 28, none⟩)) := by kernel_rfl
theorem faA15 {k off : Nat} : aFieldAddr Try.prog 30 (.pointer (some ⟨k, off, none⟩)) 15 = some (.pointer (some ⟨k, off + 29, none⟩)) := by kernel_rfl
theorem faA16 {k off : Nat} : aFieldAddr Try.prog 30 (.pointer (some ⟨k, off, none⟩)) 16 = some (.pointer (some ⟨k, off + 30, none⟩)) := by kernel_rfl
theorem faA17 {k off : Nat} : aFieldAddr Try.prog 30 (.pointer (some ⟨k, off, none⟩)) 17 = some (.pointer (some ⟨k, off + 31, none⟩)) := by kernel_rfl
theorem faA18 {k off : Nat} : aFieldAddr Try.prog 30 (.pointer (some ⟨k, off, none⟩)) 18 = some (.pointer (some ⟨k, off + 32, none⟩)) := by kernel_rfl
theorem faA19 {k off : Nat} : aFieldAddr Try.prog 30 (.pointer (some ⟨k, off, none⟩)) 19 = some (.pointer (some ⟨k, off + 33, none⟩)) := by kernel_rfl
theorem faA20 {k off : Nat} : aFieldAddr Try.prog 30 (.pointer (some ⟨k, off, none⟩)) 20 = some (.pointer (some ⟨k, off + 34, none⟩)) := by kernel_rfl
theorem faA21 {k off : Nat} : aFieldAddr Try.prog 30 (.pointer (some ⟨k, off, none⟩)) 21 = some (.pointer (some ⟨k, off + 35, none⟩)) := by kernel_rfl
section
variable {h : Heap} {a b : Addr}
theorem alU32 : aAlloc Try.prog h 23 = some (pt h.next 0, h.push (.cells [.int .u32 0] 23 false)) := by kernel_rfl
theorem alRow : aAlloc Try.prog h 22 = some (pt h.next 0, h.push (.cells [.slice none 0 0] 22 false)) := by kernel_rfl
theorem bp32 : aBuildSlice Try.prog h 142 1 [(0, .pointer (some a))] = some (.slice (some ⟨h.next, 0, none⟩) 1 1, h.push (.cells [.pointer (some a)] 123 false)) := by kernel_rfl
theorem bp64 : aBuildSlice Try.prog h 143 1 [(0, .pointer (some a))] = some (.slice (some ⟨h.next, 0, none⟩) 1 1, h.push (.cells [.pointer (some a)] 125 false)) := by kernel_rfl
theorem bp32' : aBuildSlice Try.prog h 142 2 [(0, .pointer (some a)), (1, .pointer (some b))] = some (.slice (some ⟨h.next, 0, none⟩) 2 2, h.push (.cells [.pointer (some a), .pointer (some b)] 123 false)) := by kernel_rfl
theorem bp64' : aBuildSlice Try.prog h 143 2 [(0, .pointer (some a)), (1, .pointer (some b))] = some (.slice (some ⟨h.next, 0, none⟩) 2 2, h.push (.cells [.pointer (some a), .pointer (some b)] 125 false)) := by kernel_rfl
theorem bTime : aBuild Try.prog 26 [] = some (.agg #[.int .u32 0, .int .u32 0]) := by kernel_rfl
theorem cvStr {s : ByteArray} (hs : s.size ≤ 1000000000) : aConv Try.prog h 9 22 (.string s) = some (.slice (some ⟨h.next, 0, none⟩) s.size opnCap, h.push (.cells (s.data.toList.map fun b => .int .u8 b.toNat) 5 false)) := by
  have e1 : small s.size = true := small_of (by omega)
  have e2 : (s.data.toList.map fun b => Value.int .u8 b.toNat).all Value.oneCell' = true := by
    refine List.all_eq_true.2 fun x hx => ?_
    obtain ⟨b, _, rfl⟩ := List.mem_map.1 hx
    rfl
  have e3 : Nat.beq (Try.t5).size 1 = true := rfl
  simp only [aConv, Try.underlying9, Try.underlying22, Try.underlying5, i5, e1, e3, aNew, e2, Bool.and_self, cond_true]
end
structure RS where
  s : Nat × Int
  bad : Bool
  cs : List Value
def pU32 (bs : List Int) (o : Nat) (x : RS) : RS := ⟨(rNum bs 4 x.s).2, x.bad, x.cs.set o (.int .u32 (rNum bs 4 x.s).1)⟩
def pU64 (bs : List Int) (o : Nat) (x : RS) : RS := ⟨(rNum bs 8 x.s).2, x.bad, x.cs.set o (.int .u64 (rNum bs 8 x.s).1)⟩
def pBool (bs : List Int) (o : Nat) (x : RS) : RS := ⟨(rBool bs x.s).2, x.bad, x.cs.set o (.bool (rBool bs x.s).1)⟩
def pNum (bs : List Int) (o : Nat) (from' to : Int) (x : RS) : RS := ⟨(rNum bs 4 x.s).2, x.bad || !(decide (from' ≤ (rNum bs 4 x.s).1) && decide ((rNum bs 4 x.s).1 ≤ to)), x.cs.set o (.int .i64 (rNum bs 4 x.s).1)⟩
def pText (bs : List Int) (o : Nat) (most : Int) (x : RS) : RS := ⟨(rBytes bs most x.s).2, x.bad, x.cs.set o (.string (strS ((rBytes bs most x.s).1.map (Value.int .u8))))⟩
def pTime (bs : List Int) (o : Nat) (x : RS) : RS := pU32 bs (o + 1) (pU32 bs o x)
def pNoTime (o : Nat) (x : RS) : RS := { x with cs := (x.cs.set o (.int .u32 0)).set (o + 1) (.int .u32 0) }
def pHow (bs : List Int) (o t : Nat) (x : RS) : RS := if (rNum bs 4 x.s).1 = 2 then pTime bs t (pNum bs o 0 2 x) else pNoTime t (pNum bs o 0 2 x)
def pIf (bs : List Int) (o : Nat) (f : RS → RS) (x : RS) : RS := if (rBool bs x.s).1 = true then f (pBool bs o x) else pBool bs o x
def pSet (bs : List Int) (o : Nat) (x : RS) : RS :=
  pHow bs (o + 9) (o + 12) (pHow bs (o + 8) (o + 10) (pIf bs (o + 3) (pU64 bs (o + 7)) (pIf bs (o + 2) (pU32 bs (o + 6)) (pIf bs (o + 1) (pU32 bs (o + 5)) (pIf bs o (pNum bs (o + 4) 0 4294967295) x)))))
def CRS (Z : Nat → Prop) (H0 h : Heap) (kc kr : Nat) (bv : Value) (bs : List Int) (x : RS) (kt : Nat) (T : TypeId) (L : List Blk) : Prop := CR Z H0 h kc kr bv bs x.s x.bad ((kt, x.cs, T) :: L)
section
variable {Z : Nat → Prop} {H0 h : Heap} {kc kr : Nat} {bv : Value} {bs : List Int} {s : Nat × Int} {bad : Bool} {L : List Blk} {kt : Nat} {cs : List Value} {T : TypeId}
end
section
variable (Z : Nat → Prop) (H0 h : Heap) (kc kr : Nat) (bv : Value) (bs : List Int) (kt : Nat) (T : TypeId) (L : List Blk)
end
end Go.Proofs.Ytanknjpcgceccaa

namespace Go.Proofs.Ytanknjpcgceccaa
open Go Go.AM
set_option linter.unusedSimpArgs false
set_option maxRecDepth 100000
theorem setL_two (cs : List Value) (o : Nat) (a b : Value) : setL cs o [a, b] = (cs.set o a).set (o + 1) b := rfl
theorem iTime : Try.prog.info? 26 = some Try.t26 := by kernel_rfl
section
variable {Z : Nat → Prop} {H0 h : Heap} {L : List Blk} {kt o : Nat} {cs : List Value} {T : TypeId}
theorem St_two {a b : Value} (s : St Z H0 h ((kt, cs, T) :: L)) (ho : o + 1 < cs.length) (h1 : a.oneCell' = true) (h2 : b.oneCell' = true) :
    aStore Try.prog h 26 (pt kt o) (.agg #[a, b]) = some (h.set kt (.cells ((cs.set o a).set (o + 1) b) T false)) ∧ St Z H0 (h.set kt (.cells ((cs.set o a).set (o + 1) b) T false)) ((kt, (cs.set o a).set (o + 1) b, T) :: L) := by
  have e1 : (Value.agg #[a, b]).cells = #[a, b] := rfl
  have e2 : Nat.ble (o + 2) cs.length = true := ble_iff.2 (by omega)
  have e3 : (Try.t26).size = 2 := rfl
  refine ⟨?_, s.upd (Same.set1 _ _ _) (Heap.get_set_eq s.hd)⟩
  simp [aStore, iTime, e1, e2, e3, wrN, s.hd, h1, h2, setL_two]
end
section
variable {bs : List Int} {x : RS} {o p : Nat} {f : RS → RS}
theorem pBool_len : (pBool bs o x).cs.length = x.cs.length := by simp [pBool]
theorem pNum_len {a b : Int} : (pNum bs o a b x).cs.length = x.cs.length := by simp [pNum]
theorem pU32_len : (pU32 bs o x).cs.length = x.cs.length := by simp [pU32]
theorem pU64_len : (pU64 bs o x).cs.length = x.cs.length := by simp [pU64]
theorem pTime_len : (pTime bs o x).cs.length = x.cs.length := by simp [pTime, pU32]
theorem pNoTime_len : (pNoTime o x).cs.length = x.cs.length := by simp [pNoTime]
theorem pHow_len : (pHow bs o p x).cs.length = x.cs.length := by
  unfold pHow; split
  · rw [pTime_len, pNum_len]
  · rw [pNoTime_len, pNum_len]
theorem pIf_len (hf : ∀ y, (f y).cs.length = y.cs.length) : (pIf bs o f x).cs.length = x.cs.length := by
  unfold pIf; split
  · rw [hf, pBool_len]
  · exact pBool_len
end
section
variable (Z : Nat → Prop) (H0 h : Heap) (kc kr : Nat) (bv : Value) (bs : List Int) (kt : Nat) (T : TypeId) (L : List Blk)
end
end Go.Proofs.Ytanknjpcgceccaa

namespace Go.Proofs.Ytanknjpcgceccaa
open Go Go.AM
set_option linter.unusedSimpArgs false
set_option maxRecDepth 100000
theorem pSet_len {bs : List Int} {x : RS} {o : Nat} : (pSet bs o x).cs.length = x.cs.length := by
  unfold pSet
  rw [pHow_len, pHow_len, pIf_len (fun _ => pU64_len), pIf_len (fun _ => pU32_len), pIf_len (fun _ => pU32_len), pIf_len (fun _ => pNum_len)]
def sattrZ : List Value := [.bool false, .bool false, .bool false, .bool false, .int .i64 0, .int .u32 0, .int .u32 0, .int .u64 0, .int .i64 0, .int .i64 0, .int .u32 0, .int .u32 0, .int .u32 0, .int .u32 0]
def strZ : Value := .string ⟨#[]⟩
def argsZ : List Value := [strZ, strZ, strZ, strZ, strZ, .bool false, .bool false, .bool false, .bool false, .int .i64 0, .int .u32 0, .int .u32 0, .int .u64 0, .int .i64 0, .int .i64 0, .int .u32 0, .int .u32 0, .int .u32 0, .int .u32 0,
  .bool false, .int .u32 0, .int .u32 0, .int .u32 0, .int .u64 0, .int .u32 0, .int .i64 0, .int .i64 0, .int .i64 0, .slice none 0 0, .int .u64 0, .int .u64 0, .int .u64 0, .int .u32 0, .int .u32 0, .int .u32 0, .int .u32 0]
section
variable (Z : Nat → Prop) (H0 h : Heap) (kc kr : Nat) (bv : Value) (bs : List Int) (kt : Nat) (T : TypeId) (L : List Blk)
end
end Go.Proofs.Ytanknjpcgceccaa

namespace Go.Proofs.Ytanknjpcgceccaa
open Go Go.AM
set_option linter.unusedSimpArgs false
set_option maxRecDepth 100000
section
variable (Z : Nat → Prop) (H0 h : Heap) (kc kr : Nat) (bv : Value) (bs : List Int) (kt : Nat) (T : TypeId) (L : List Blk)
def AQ (Z : Nat → Prop) (H0 h' : Heap) (kc kr : Nat) (bv : Value) (bs : List Int) (x : RS) (kt : Nat) (T : TypeId) (L : List Blk) (ds : List Int) : Prop :=
  ∃ dv, CR Z H0 h' kc kr bv bs x.s x.bad ((kt, x.cs.set 28 dv, T) :: L) ∧ OutB H0 h' dv ds
variable {Z H0 kc kr bv bs kt T L} in
theorem AQ.of {h' : Heap} {x : RS} (c : CRS Z H0 h' kc kr bv bs x kt T L) (hd : x.cs[28]? = some (.slice none 0 0)) : AQ Z H0 h' kc kr bv bs x kt T L [] := by
  refine ⟨.slice none 0 0, ?_, OutB.nil⟩
  have e : x.cs.set 28 (.slice none 0 0) = x.cs := by
    obtain ⟨hl, he⟩ := List.getElem?_eq_some_iff.1 hd
    rw [← he]; exact List.set_getElem_self hl
  rw [e]; exact c
end
end Go.Proofs.Ytanknjpcgceccaa

namespace Go.Proofs.Ytanknjpcgceccaa
open Go Go.AM
set_option linter.unusedSimpArgs false
set_option maxRecDepth 100000
def One (cs : List Value) : Prop := cs.all Value.oneCell' = true
theorem One.set {cs : List Value} {o : Nat} {v : Value} (h : One cs) (hv : v.oneCell' = true) : One (cs.set o v) :=
  List.all_eq_true.2 fun x hx => (List.mem_or_eq_of_mem_set hx).elim (List.all_eq_true.1 h x) (fun e => by rw [e]; exact hv)
section
variable {bs : List Int} {x : RS} {o t : Nat} {f : RS → RS}
theorem pU32_one (h : One x.cs) : One (pU32 bs o x).cs := One.set h rfl
theorem pU64_one (h : One x.cs) : One (pU64 bs o x).cs := One.set h rfl
theorem pBool_one (h : One x.cs) : One (pBool bs o x).cs := One.set h rfl
theorem pNum_one {a b : Int} (h : One x.cs) : One (pNum bs o a b x).cs := One.set h rfl
theorem pTime_one (h : One x.cs) : One (pTime bs o x).cs := pU32_one (pU32_one h)
theorem pNoTime_one (h : One x.cs) : One (pNoTime o x).cs := One.set (One.set h rfl) rfl
theorem pHow_one (h : One x.cs) : One (pHow bs o t x).cs := by
  unfold pHow; split
  · exact pTime_one (pNum_one h)
  · exact pNoTime_one (pNum_one h)
theorem pIf_one (hf : ∀ y : RS, One y.cs → One (f y).cs) (h : One x.cs) : One (pIf bs o f x).cs := by
  unfold pIf; split
  · exact hf _ (pBool_one h)
  · exact pBool_one h
theorem pSet_one (h : One x.cs) : One (pSet bs o x).cs :=
  pHow_one (pHow_one (pIf_one (fun _ => pU64_one) (pIf_one (fun _ => pU32_one) (pIf_one (fun _ => pU32_one) (pIf_one (fun _ => pNum_one) h)))))
end
theorem setL_all : ∀ (vs pre cs : List Value), pre.length + vs.length = cs.length → cs.take pre.length = pre → setL cs pre.length vs = pre ++ vs
  | [], pre, cs, h, hp => by
    simp only [setL, List.append_nil]
    rw [List.take_of_length_le (by simp at h; omega)] at hp
    exact hp
  | v :: vs, pre, cs, h, hp => by
    simp only [List.length_cons] at h
    have ih := setL_all vs (pre ++ [v]) (cs.set pre.length v) (by simp; omega) (by
      rw [List.length_append, List.length_singleton, List.take_succ_eq_append_getElem (by simp; omega), List.getElem_set_self, List.take_set_of_le (Nat.le_refl _), hp])
    rw [List.length_append, List.length_singleton] at ih
    simp only [setL]
    rw [ih, List.append_assoc]; rfl
theorem setL_whole (vs cs : List Value) (h : vs.length = cs.length) : setL cs 0 vs = vs := by
  have := setL_all vs [] cs (by simpa using h) rfl
  simpa using this
section
variable {P : Program} {Z : Nat → Prop} {H0 h : Heap} {L : List Blk} {k : Nat} {cs vs : List Value} {T t : TypeId} {i : TypeInfo} {fs : Array Field}
theorem _root_.Go.AM.St.ldS (s : St Z H0 h ((k, cs, T) :: L)) (hu : P.underlying t = some (.struct fs)) (hi : P.info? t = some i) (hs : i.size = cs.length) : aLoad P h t (pt k 0) = some (.agg cs.toArray) := by
  rw [aLoad_struct hu hi, rdN, s.hd]
  have : Nat.ble (0 + i.size) cs.length = true := ble_iff.2 (by omega)
  have e : Nat.ble cs.length cs.length = true := ble_iff.2 (Nat.le_refl _)
  simp [this, hs, e]
theorem _root_.Go.AM.St.stS (s : St Z H0 h ((k, cs, T) :: L)) (hi : P.info? t = some i) (hs : i.size = cs.length) (hv : vs.length = cs.length) (h1 : One vs) :
    aStore P h t (pt k 0) (.agg vs.toArray) = some (h.set k (.cells vs T false)) ∧ St Z H0 (h.set k (.cells vs T false)) ((k, vs, T) :: L) := by
  have e1 : (Value.agg vs.toArray).cells = vs.toArray := rfl
  have e2 : Nat.ble (0 + vs.length) cs.length = true := ble_iff.2 (by omega)
  refine ⟨?_, s.upd (Same.set1 _ _ _) (Heap.get_set_eq s.hd)⟩
  have h1' : vs.all Value.oneCell' = true := h1
  have e : Nat.ble cs.length cs.length = true := ble_iff.2 (Nat.le_refl _)
  simp [aStore, hi, e1, hs, hv, wrN, s.hd, h1', setL_whole vs cs hv, e]
end
abbrev TA : TypeId := 30
theorem iArgs : Try.prog.info? 30 = some Try.t30 := by kernel_rfl
theorem alArgs {h : Heap} : aAlloc Try.prog h 30 = some (pt h.next 0, h.push (.cells argsZ TA false)) := by kernel_rfl
theorem WGd_undef {P : Program} {ops : Array Oper} {Q : List Value → Heap → Prop} {o : Oper} {l : List Oper} {env : List Value} {h : Heap} {d : Option Tmp} {want : Bool} : WGd P ops Q o l env h d want undef = WOps P ops Q l (aPut env d undef) h := rfl
def there (p : Int) : Bool := (decide (0 ≤ p) && decide (p ≤ 21)) || (decide (100 ≤ p) && decide (p ≤ 105))
theorem is_am (p : Int) (h : Heap) : Cl Try.prog 20 [.int .i64 p] h fun v h' => v = .bool (there p) ∧ h' = h := by
  refine Cl.enter Try.func20 rfl 17 Try.ntmps20 (by simp) ?_
  intro env hl ha
  have h0 : sl env 0 = .int .i64 p := ha 0 (by simp)
  clear ha
  by_cases c1 : 0 ≤ p
  · have d1 : decide (p ≥ 0) = true := decide_eq_true c1
    by_cases c2 : p ≤ 21
    · have d2 : decide (p ≤ 21) = true := decide_eq_true c2
      repeat (first | (with_reducible refine Wp.st ?_; simp only [wS]) | with_reducible refine Wp.drawS (by decide +kernel) ?_ | simp (disch := (first | (simp only [List.length_set, hl]; omega) | omega | rfl)) only [walkA, walkB, bne_self_eq_false, beq_self_eq_true, Option.map_some, Option.map_none, reduceIte, decide_true, decide_false, Int.reduceLT, Int.reduceLE, Int.reduceMul, Int.reduceAdd, Int.reduceSub, h0, d1, d2, WGd_undef])
      simp (disch := (first | (simp only [List.length_set, hl]; omega) | omega | rfl)) only [aRes_one Try.results20, sL]
      exact ⟨by simp [there, c1, c2], trivial⟩
    · have d2 : decide (p ≤ 21) = false := decide_eq_false c2
      by_cases c3 : 100 ≤ p
      · have d3 : decide (p ≥ 100) = true := decide_eq_true c3
        repeat (first | (with_reducible refine Wp.st ?_; simp only [wS]) | with_reducible refine Wp.drawS (by decide +kernel) ?_ | simp (disch := (first | (simp only [List.length_set, hl]; omega) | omega | rfl)) only [walkA, walkB, bne_self_eq_false, beq_self_eq_true, Option.map_some, Option.map_none, reduceIte, decide_true, decide_false, Int.reduceLT, Int.reduceLE, Int.reduceMul, Int.reduceAdd, Int.reduceSub, h0, d1, d2, d3])
        simp (disch := (first | (simp only [List.length_set, hl]; omega) | omega | rfl)) only [aRes_one Try.results20, sL]
        exact ⟨by simp [there, c1, c2, c3], trivial⟩
      · have d3 : decide (p ≥ 100) = false := decide_eq_false c3
        repeat (first | (with_reducible refine Wp.st ?_; simp only [wS]) | with_reducible refine Wp.drawS (by decide +kernel) ?_ | simp (disch := (first | (simp only [List.length_set, hl]; omega) | omega | rfl)) only [walkA, walkB, bne_self_eq_false, beq_self_eq_true, Option.map_some, Option.map_none, reduceIte, decide_true, decide_false, Int.reduceLT, Int.reduceLE, Int.reduceMul, Int.reduceAdd, Int.reduceSub, h0, d1, d2, d3])
        simp (disch := (first | (simp only [List.length_set, hl]; omega) | omega | rfl)) only [aRes_one Try.results20, sL]
        exact ⟨by simp [there, c1, c2, c3], trivial⟩
  · have d1 : decide (p ≥ 0) = false := decide_eq_false c1
    have d3 : decide (p ≥ 100) = false := decide_eq_false (by omega)
    repeat (first | (with_reducible refine Wp.st ?_; simp only [wS]) | with_reducible refine Wp.drawS (by decide +kernel) ?_ | simp (disch := (first | (simp only [List.length_set, hl]; omega) | omega | rfl)) only [walkA, walkB, bne_self_eq_false, beq_self_eq_true, Option.map_some, Option.map_none, reduceIte, decide_true, decide_false, Int.reduceLT, Int.reduceLE, Int.reduceMul, Int.reduceAdd, Int.reduceSub, h0, d1, d3])
    simp (disch := (first | (simp only [List.length_set, hl]; omega) | omega | rfl)) only [aRes_one Try.results20, sL]
    exact ⟨by simp [there, c1]; omega, trivial⟩
theorem there_cases {p : Int} (h : there p = true) : p = 0 ∨ p = 1 ∨ p = 2 ∨ p = 3 ∨ p = 4 ∨ p = 5 ∨ p = 6 ∨ p = 7 ∨ p = 8 ∨ p = 9 ∨ p = 10 ∨ p = 11 ∨ p = 12 ∨ p = 13 ∨ p = 14 ∨ p = 15 ∨ p = 16 ∨ p = 17 ∨ p = 18 ∨ p = 19 ∨ p = 20 ∨ p = 21 ∨ p = 100 ∨ p = 101 ∨ p = 102 ∨ p = 103 ∨ p = 104 ∨ p = 105 := by
  simp [there] at h; omega
theorem row_lt {h : Heap} {v : Value} {vs : List Value} (r : Row h v vs) : ∀ a n c, v = .slice (some a) n c → n ≠ 0 → a.block < h.next := fun a n c e hn => by
  rcases r with ⟨rfl, _⟩ | ⟨_, k, off, d, rfl⟩ | ⟨k, off, cap, cs, hl, ro, rfl, hg, _⟩
  · cases e
  · injection e with _ e2; exact absurd e2.symm hn
  · injection e with e1; injection e1 with e1; subst e1; exact Heap.get_lt hg
end Go.Proofs.Ytanknjpcgceccaa

namespace Go.Proofs.Ytanknjpcgceccaa
open Go Go.AM
set_option linter.unusedSimpArgs false
set_option maxRecDepth 100000
abbrev TIn : TypeId := 77
section
variable {k off : Nat}
end
structure XR (Z : Nat → Prop) (H0 h : Heap) (ki kr : Nat) (bv : Value) (bs : List Int) (s : Nat × Int) (bad : Bool) (L : List Blk) : Prop where
  st : St Z H0 h ((ki, [pt kr 0, .bool bad], TIn) :: (kr, [bv, .int .i64 s.1, .int .i64 s.2], TR) :: L)
  row : RowX H0 5 bv (bs.map (Value.int .u8))
  z : ∀ a n c, bv = .slice (some a) n c → n ≠ 0 → Z a.block
  len : bs.length ≤ 1000000000
  pos : s.1 ≤ bs.length
  byte : ∀ b ∈ bs, 0 ≤ b ∧ b < 256
section
variable {Z : Nat → Prop} {H0 h h' : Heap} {ki kr : Nat} {bv : Value} {bs : List Int} {s s' : Nat × Int} {bad : Bool} {L : List Blk} {kt o : Nat} {cs : List Value} {T : TypeId}
theorem XR.rd (c : XR Z H0 h ki kr bv bs s bad L) : RdOK h kr TR bv bs s :=
  ⟨c.st.tail.hd, c.st.stayedX c.row c.z, fun a n d e hn x => c.st.tail.off (kr, [bv, .int .i64 s.1, .int .i64 s.2], TR) (by simp) (x ▸ c.z a n d e hn), c.len, c.pos, c.byte⟩
theorem XR.read (c : XR Z H0 h ki kr bv bs s bad L) (r : RdOK h' kr TR bv bs s') (hs : Same h h' (onlyS kr)) : XR Z H0 h' ki kr bv bs s' bad L :=
  ⟨(c.st.swap.upd hs r.rd).swap, c.row, c.z, c.len, r.pos, c.byte⟩
theorem XR.lb (c : XR Z H0 h ki kr bv bs s bad L) : aLoad Try.prog h 4 (.pointer (some ⟨ki, 0 + 1, none⟩)) = some (.bool bad) := by rw [c.st.ld Try.underlying4 (by simp) (by simp)]; rfl
theorem XR.sb (c : XR Z H0 h ki kr bv bs s bad L) (b : Bool) : aStore Try.prog h 4 (pt ki (0 + 1)) (.bool b) = some (h.set ki (.cells [pt kr 0, .bool b] TIn false)) ∧ XR Z H0 (h.set ki (.cells [pt kr 0, .bool b] TIn false)) ki kr bv bs s b L := by
  have q := c.st.st (P := Try.prog) iB rfl (0 + 1) (by simp) (v := .bool b) rfl rfl
  exact ⟨q.1, ⟨q.2, c.row, c.z, c.len, c.pos, c.byte⟩⟩
theorem XR.ld {t : TypeId} {d : TypeDesc} (c : XR Z H0 h ki kr bv bs s bad ((kt, cs, T) :: L)) (hu : Try.prog.underlying t = some d) (h1 : ∀ fs, d ≠ .struct fs) (h2 : ∀ n e, d ≠ .array n e) (o : Nat) : aLoad Try.prog h t (pt kt o) = cs[o]? :=
  c.st.rot3'.ld hu h1 h2 o
theorem XR.put {t : TypeId} {i : TypeInfo} {v : Value} (c : XR Z H0 h ki kr bv bs s bad ((kt, cs, T) :: L)) (hi : Try.prog.info? t = some i) (hs : i.size = 1) (o : Nat) (ho : o < cs.length) (hv : v.cells = #[v]) (h1 : v.oneCell' = true) :
    aStore Try.prog h t (pt kt o) v = some (h.set kt (.cells (cs.set o v) T false)) ∧ XR Z H0 (h.set kt (.cells (cs.set o v) T false)) ki kr bv bs s bad ((kt, cs.set o v, T) :: L) := by
  have q := c.st.rot3'.st (P := Try.prog) hi hs o ho hv h1
  exact ⟨q.1, ⟨q.2.rot3, c.row, c.z, c.len, c.pos, c.byte⟩⟩
theorem XR.two {a b : Value} (c : XR Z H0 h ki kr bv bs s bad ((kt, cs, T) :: L)) (ho : o + 1 < cs.length) (h1 : a.oneCell' = true) (h2 : b.oneCell' = true) :
    aStore Try.prog h 26 (pt kt o) (.agg #[a, b]) = some (h.set kt (.cells ((cs.set o a).set (o + 1) b) T false)) ∧ XR Z H0 (h.set kt (.cells ((cs.set o a).set (o + 1) b) T false)) ki kr bv bs s bad ((kt, (cs.set o a).set (o + 1) b, T) :: L) := by
  have q := St_two c.st.rot3' ho h1 h2
  exact ⟨q.1, ⟨q.2.rot3, c.row, c.z, c.len, c.pos, c.byte⟩⟩
theorem XR.put' {t : TypeId} {i : TypeInfo} {v : Value} (c : XR Z H0 h ki kr bv bs s bad ((kt, cs, T) :: L)) (hi : Try.prog.info? t = some i) (hs : i.size = 1) (o : Nat) (ho : o < cs.length) (hv : v.cells = #[v]) (h1 : v.oneCell' = true) :
    ∃ h2, aStore Try.prog h t (pt kt o) v = some h2 ∧ XR Z H0 h2 ki kr bv bs s bad ((kt, cs.set o v, T) :: L) := ⟨_, c.put hi hs o ho hv h1⟩
theorem XR.two' {a b : Value} (c : XR Z H0 h ki kr bv bs s bad ((kt, cs, T) :: L)) (ho : o + 1 < cs.length) (h1 : a.oneCell' = true) (h2 : b.oneCell' = true) :
    ∃ h2, aStore Try.prog h 26 (pt kt o) (.agg #[a, b]) = some h2 ∧ XR Z H0 h2 ki kr bv bs s bad ((kt, (cs.set o a).set (o + 1) b, T) :: L) := ⟨_, c.two ho h1 h2⟩
theorem XR.alloc (c : XR Z H0 h ki kr bv bs s bad L) (cs : List Value) (T : TypeId) : XR Z H0 (h.push (.cells cs T false)) ki kr bv bs s bad ((h.next, cs, T) :: L) :=
  ⟨(c.st.push cs T).rot3, c.row, c.z, c.len, c.pos, c.byte⟩
theorem XR.drop {x : Blk} (c : XR Z H0 h ki kr bv bs s bad (x :: L)) : XR Z H0 h ki kr bv bs s bad L := ⟨c.st.drop3, c.row, c.z, c.len, c.pos, c.byte⟩
theorem XR.swap {x y : Blk} (c : XR Z H0 h ki kr bv bs s bad (x :: y :: L)) : XR Z H0 h ki kr bv bs s bad (y :: x :: L) := ⟨c.st.perm (((List.Perm.swap _ _ _).cons _).cons _), c.row, c.z, c.len, c.pos, c.byte⟩
theorem XR.nx (c : XR Z H0 h ki kr bv bs s bad L) : H0.next ≤ h.next := c.st.nx
end
section
variable {Z : Nat → Prop} {H0 h : Heap} {ki kr : Nat} {bv : Value} {bs : List Int} {s : Nat × Int} {bad : Bool} {L : List Blk}
end
end Go.Proofs.Ytanknjpcgceccaa

namespace Go.Proofs.Ytanknjpcgceccaa
open Go Go.AM
set_option linter.unusedSimpArgs false
set_option maxRecDepth 100000
def XRS (Z : Nat → Prop) (H0 h : Heap) (ki kr : Nat) (bv : Value) (bs : List Int) (x : RS) (kt : Nat) (T : TypeId) (L : List Blk) : Prop := XR Z H0 h ki kr bv bs x.s x.bad ((kt, x.cs, T) :: L)
theorem iSet : Try.prog.info? 28 = some Try.t28 := by kernel_rfl
section
variable {Z : Nat → Prop} {H0 h : Heap} {ki kr : Nat} {bv : Value} {bs : List Int} {L : List Blk} {x : RS} {kt o : Nat} {T : TypeId}
theorem XRS.bool (c : XRS Z H0 h ki kr bv bs x kt T L) (ho : o < x.cs.length) {h1 : Heap} (r : RdOK h1 kr TR bv bs (rBool bs x.s).2) (hs : Same h h1 (onlyS kr)) :
    ∃ h2, aStore Try.prog h1 4 (pt kt o) (.bool (rBool bs x.s).1) = some h2 ∧ XRS Z H0 h2 ki kr bv bs (pBool bs o x) kt T L ∧ aLoad Try.prog h2 4 (pt kt o) = some (.bool (rBool bs x.s).1) := by
  obtain ⟨h2, p1, c2⟩ := (XR.read c r hs).put' iB rfl o ho (v := .bool (rBool bs x.s).1) rfl rfl
  refine ⟨h2, p1, c2, ?_⟩
  rw [c2.ld Try.underlying4 (by simp) (by simp) o, List.getElem?_set_self ho]
theorem XRS.u64 (c : XRS Z H0 h ki kr bv bs x kt T L) (ho : o < x.cs.length) {h1 : Heap} (r : RdOK h1 kr TR bv bs (rNum bs 8 x.s).2) (hs : Same h h1 (onlyS kr)) :
    ∃ h2, aStore Try.prog h1 24 (pt kt o) (.int .u64 (rNum bs 8 x.s).1) = some h2 ∧ XRS Z H0 h2 ki kr bv bs (pU64 bs o x) kt T L := by
  obtain ⟨h2, p1, c2⟩ := (XR.read c r hs).put' iU64 rfl o ho (v := .int .u64 (rNum bs 8 x.s).1) rfl rfl
  exact ⟨h2, p1, c2⟩
theorem XRS.u32 {h1 : Heap} (ho : o < x.cs.length) (c1 : XR Z H0 h1 ki kr bv bs (rNum bs 4 x.s).2 x.bad ((kt, x.cs, T) :: L)) :
    ∃ h2, aStore Try.prog h1 23 (pt kt o) (.int .u32 (rNum bs 4 x.s).1) = some h2 ∧ XRS Z H0 h2 ki kr bv bs (pU32 bs o x) kt T L := by
  obtain ⟨h2, p1, c2⟩ := c1.put' iU32 rfl o ho (v := .int .u32 (rNum bs 4 x.s).1) rfl rfl
  exact ⟨h2, p1, c2⟩
theorem XRS.time {h1 : Heap} (ho : o + 1 < x.cs.length) (c1 : XR Z H0 h1 ki kr bv bs (rNum bs 4 (rNum bs 4 x.s).2).2 x.bad ((kt, x.cs, T) :: L)) :
    ∃ h2, aStore Try.prog h1 26 (pt kt o) (.agg #[.int .u32 (rNum bs 4 x.s).1, .int .u32 (rNum bs 4 (rNum bs 4 x.s).2).1]) = some h2 ∧ XRS Z H0 h2 ki kr bv bs (pTime bs o x) kt T L := by
  obtain ⟨h2, p1, c2⟩ := c1.two' ho (a := .int .u32 (rNum bs 4 x.s).1) (b := .int .u32 (rNum bs 4 (rNum bs 4 x.s).2).1) rfl rfl
  exact ⟨h2, p1, c2⟩
theorem XRS.text {m : Int} {h1 : Heap} (ho : o < x.cs.length) (c1 : XR Z H0 h1 ki kr bv bs (rBytes bs m x.s).2 x.bad ((kt, x.cs, T) :: L)) :
    ∃ h2, aStore Try.prog h1 9 (pt kt o) (.string (strS ((rBytes bs m x.s).1.map (Value.int .u8)))) = some h2 ∧ XRS Z H0 h2 ki kr bv bs (pText bs o m x) kt T L := by
  obtain ⟨h2, p1, c2⟩ := c1.put' iStr rfl o ho (v := .string (strS ((rBytes bs m x.s).1.map (Value.int .u8)))) rfl rfl
  exact ⟨h2, p1, c2⟩
end
section
variable {Z : Nat → Prop} {H0 h : Heap} {ki kr : Nat} {bv : Value} {bs : List Int} {L : List Blk} {s : Nat × Int} {bad : Bool}
end
end Go.Proofs.Ytanknjpcgceccaa

namespace Go.Proofs.Ytanknjpcgceccaa
open Go Go.AM
set_option linter.unusedSimpArgs false
set_option maxRecDepth 100000
def liftR (cs : List Value) (o : Nat) (y : RS) : RS := ⟨y.s, y.bad, setL cs o y.cs⟩
theorem setL_set {cs vs : List Value} {o i : Nat} {w : Value} (hi : i < vs.length) (hc : o + vs.length ≤ cs.length) : (setL cs o vs).set (o + i) w = setL cs o (vs.set i w) := by
  apply List.ext_getElem?
  intro j
  rw [List.getElem?_set, setL_get, setL_get, setL_length, List.length_set]
  by_cases h : o + i = j
  · subst h
    have e : o + i - o = i := by omega
    rw [if_pos rfl, if_pos (by omega), if_pos (by omega), e, List.getElem?_set_self hi]
  · rw [if_neg h]
    by_cases h2 : o ≤ j ∧ j < o + vs.length ∧ j < cs.length
    · rw [if_pos h2, if_pos h2, List.getElem?_set_ne (by omega)]
    · rw [if_neg h2, if_neg h2]
section
variable {bs : List Int} {cs : List Value} {o i : Nat} {y : RS}
theorem l_u32 (hc : o + 14 ≤ cs.length) (hy : y.cs.length = 14) (hi : i < 14) : pU32 bs (o + i) (liftR cs o y) = liftR cs o (pU32 bs i y) := by
  simp only [pU32, liftR]; rw [setL_set (by omega) (by omega)]
theorem l_u64 (hc : o + 14 ≤ cs.length) (hy : y.cs.length = 14) (hi : i < 14) : pU64 bs (o + i) (liftR cs o y) = liftR cs o (pU64 bs i y) := by
  simp only [pU64, liftR]; rw [setL_set (by omega) (by omega)]
theorem l_bool (hc : o + 14 ≤ cs.length) (hy : y.cs.length = 14) (hi : i < 14) : pBool bs (o + i) (liftR cs o y) = liftR cs o (pBool bs i y) := by
  simp only [pBool, liftR]; rw [setL_set (by omega) (by omega)]
theorem l_num {a b : Int} (hc : o + 14 ≤ cs.length) (hy : y.cs.length = 14) (hi : i < 14) : pNum bs (o + i) a b (liftR cs o y) = liftR cs o (pNum bs i a b y) := by
  simp only [pNum, liftR]; rw [setL_set (by omega) (by omega)]
  rfl
theorem l_time (hc : o + 14 ≤ cs.length) (hy : y.cs.length = 14) (hi : i + 1 < 14) : pTime bs (o + i) (liftR cs o y) = liftR cs o (pTime bs i y) := by
  unfold pTime
  rw [l_u32 hc hy (by omega), Nat.add_assoc, l_u32 hc (by simp [pU32, hy]) (by omega)]
theorem l_notime (hc : o + 14 ≤ cs.length) (hy : y.cs.length = 14) (hi : i + 1 < 14) : pNoTime (o + i) (liftR cs o y) = liftR cs o (pNoTime i y) := by
  simp only [pNoTime, liftR]
  rw [setL_set (by omega) (by omega), Nat.add_assoc, setL_set (by rw [List.length_set]; omega) (by rw [List.length_set]; omega)]
theorem l_how {t : Nat} (hc : o + 14 ≤ cs.length) (hy : y.cs.length = 14) (hi : i < 14) (ht : t + 1 < 14) : pHow bs (o + i) (o + t) (liftR cs o y) = liftR cs o (pHow bs i t y) := by
  unfold pHow
  have e : (liftR cs o y).s = y.s := rfl
  rw [e, l_num hc hy hi, l_time hc (by rw [pNum_len]; exact hy) ht, l_notime hc (by rw [pNum_len]; exact hy) ht]
  split <;> rfl
theorem l_if {f g : RS → RS} (hf : ∀ z : RS, z.cs.length = 14 → f (liftR cs o z) = liftR cs o (g z)) (hc : o + 14 ≤ cs.length) (hy : y.cs.length = 14) (hi : i < 14) : pIf bs (o + i) f (liftR cs o y) = liftR cs o (pIf bs i g y) := by
  unfold pIf
  have e : (liftR cs o y).s = y.s := rfl
  rw [e, l_bool hc hy hi, hf _ (by rw [pBool_len]; exact hy)]
  split <;> rfl
theorem pSet_lift (x : RS) (hc : o + 14 ≤ x.cs.length) (hz : setL x.cs o sattrZ = x.cs) : pSet bs o x = liftR x.cs o (pSet bs 0 ⟨x.s, x.bad, sattrZ⟩) := by
  have hx : x = liftR x.cs o ⟨x.s, x.bad, sattrZ⟩ := by unfold liftR; rw [hz]
  have h0 : (⟨x.s, x.bad, sattrZ⟩ : RS).cs.length = 14 := rfl
  generalize (⟨x.s, x.bad, sattrZ⟩ : RS) = y at hx h0 ⊢
  generalize x.cs = cs at hx hc ⊢
  rw [hx]
  unfold pSet
  simp only [Nat.zero_add]
  have z0 : o = o + 0 := rfl
  have h1 : (pIf bs 0 (pNum bs 4 0 4294967295) y).cs.length = 14 := by rw [pIf_len (fun _ => pNum_len)]; exact h0
  have e1 : pIf bs o (pNum bs (o + 4) 0 4294967295) (liftR cs o y) = liftR cs o (pIf bs 0 (pNum bs 4 0 4294967295) y) := l_if (i := 0) (fun z hz => l_num hc hz (by decide)) hc h0 (by decide)
  rw [e1]
  have h2 : (pIf bs 1 (pU32 bs 5) (pIf bs 0 (pNum bs 4 0 4294967295) y)).cs.length = 14 := by rw [pIf_len (fun _ => pU32_len)]; exact h1
  generalize pIf bs 0 (pNum bs 4 0 4294967295) y = y1 at h1 h2 ⊢
  rw [l_if (g := pU32 bs 5) (fun z hz => l_u32 hc hz (by decide)) hc h1 (by decide)]
  have h3 : (pIf bs 2 (pU32 bs 6) (pIf bs 1 (pU32 bs 5) y1)).cs.length = 14 := by rw [pIf_len (fun _ => pU32_len)]; exact h2
  generalize pIf bs 1 (pU32 bs 5) y1 = y2 at h2 h3 ⊢
  rw [l_if (g := pU32 bs 6) (fun z hz => l_u32 hc hz (by decide)) hc h2 (by decide)]
  have h4 : (pIf bs 3 (pU64 bs 7) (pIf bs 2 (pU32 bs 6) y2)).cs.length = 14 := by rw [pIf_len (fun _ => pU64_len)]; exact h3
  generalize pIf bs 2 (pU32 bs 6) y2 = y3 at h3 h4 ⊢
  rw [l_if (g := pU64 bs 7) (fun z hz => l_u64 hc hz (by decide)) hc h3 (by decide)]
  have h5 : (pHow bs 8 10 (pIf bs 3 (pU64 bs 7) y3)).cs.length = 14 := by rw [pHow_len]; exact h4
  generalize pIf bs 3 (pU64 bs 7) y3 = y4 at h4 h5 ⊢
  rw [l_how hc h4 (by decide) (by decide), l_how hc h5 (by decide) (by decide)]
end
section
variable {P : Program} {Z : Nat → Prop} {H0 h : Heap} {L : List Blk} {k o : Nat} {cs vs : List Value} {T t : TypeId} {i : TypeInfo}
theorem _root_.Go.AM.St.stN (s : St Z H0 h ((k, cs, T) :: L)) (hi : P.info? t = some i) (hs : i.size = vs.length) (ho : o + vs.length ≤ cs.length) (h1 : One vs) :
    aStore P h t (pt k o) (.agg vs.toArray) = some (h.set k (.cells (setL cs o vs) T false)) ∧ St Z H0 (h.set k (.cells (setL cs o vs) T false)) ((k, setL cs o vs, T) :: L) := by
  have e1 : (Value.agg vs.toArray).cells = vs.toArray := rfl
  have e2 : Nat.ble (o + vs.length) cs.length = true := ble_iff.2 (by omega)
  refine ⟨?_, s.upd (Same.set1 _ _ _) (Heap.get_set_eq s.hd)⟩
  have h1' : vs.all Value.oneCell' = true := h1
  simp [aStore, hi, e1, hs, wrN, s.hd, h1', e2]
end
section
variable {Z : Nat → Prop} {H0 h : Heap} {ki kr : Nat} {bv : Value} {bs : List Int} {L : List Blk} {x : RS} {kt o : Nat} {T : TypeId}
theorem XRS.set {h1 : Heap} (ho : o + 14 ≤ x.cs.length) (hz : setL x.cs o sattrZ = x.cs) (c1 : XR Z H0 h1 ki kr bv bs (pSet bs 0 ⟨x.s, x.bad, sattrZ⟩).s (pSet bs 0 ⟨x.s, x.bad, sattrZ⟩).bad ((kt, x.cs, T) :: L)) :
    ∃ h2, aStore Try.prog h1 28 (pt kt o) (.agg (pSet bs 0 ⟨x.s, x.bad, sattrZ⟩).cs.toArray) = some h2 ∧ XRS Z H0 h2 ki kr bv bs (pSet bs o x) kt T L := by
  have hl : (pSet bs 0 ⟨x.s, x.bad, sattrZ⟩).cs.length = 14 := by rw [pSet_len]; rfl
  have hone : One (pSet bs 0 ⟨x.s, x.bad, sattrZ⟩).cs := pSet_one (by unfold One; rfl)
  have e := pSet_lift (bs := bs) x ho hz
  rw [e]
  generalize pSet bs 0 ⟨x.s, x.bad, sattrZ⟩ = y at c1 hl hone ⊢
  have q := c1.st.rot3'.stN (P := Try.prog) iSet (by rw [hl]; rfl) (by rw [hl]; exact ho) hone
  exact ⟨_, q.1, ⟨q.2.rot3, c1.row, c1.z, c1.len, c1.pos, c1.byte⟩⟩
theorem XRS.row {dv : Value} {most : Int} {h1 : Heap} (c : XRS Z H0 h ki kr bv bs x kt T L) (ho : o < x.cs.length) (ob : OutB h h1 dv (rBytes bs most x.s).1) (r : RdOK h1 kr TR bv bs (rBytes bs most x.s).2) (hs : Same h h1 (onlyS kr)) :
    ∃ h2, aStore Try.prog h1 22 (pt kt o) dv = some h2 ∧ XR Z H0 h2 ki kr bv bs (rBytes bs most x.s).2 x.bad ((kt, x.cs.set o dv, T) :: L) ∧ OutB h h2 dv (rBytes bs most x.s).1 ∧ h2 = h1.set kt (.cells (x.cs.set o dv) T false) := by
  have c1 := XR.read c r hs
  have hkl : kt < h.next := Heap.get_lt (XR.st c).rot3'.hd
  obtain ⟨a, n, d, e⟩ := buf_slice ob.1
  have p := c1.put iRow rfl o ho (v := dv) (by rw [e]; rfl) (by rw [e]; rfl)
  refine ⟨_, p.1, p.2, ⟨ob.1.same (Same.set1 h1 kt _) (fun j hj x => ?_), ob.2⟩, rfl⟩
  have e : j = kt := x
  have := ob.2 j hj
  omega
end
end Go.Proofs.Ytanknjpcgceccaa

namespace Go.Proofs.Ytanknjpcgceccaa
open Go Go.AM
set_option linter.unusedSimpArgs false
set_option maxRecDepth 100000
attribute [local irreducible] WOps WV WH WSt WNil WPick WGd
section
variable {Z : Nat → Prop} {H0 h : Heap} {ki kr : Nat} {bv : Value} {bs : List Int} {x : RS} {kt : Nat} {T : TypeId} {L : List Blk}
end
end Go.Proofs.Ytanknjpcgceccaa

namespace Go.Proofs.Ytanknjpcgceccaa
open Go Go.AM
set_option linter.unusedSimpArgs false
set_option maxRecDepth 100000
attribute [local irreducible] WOps WV WH WSt WNil WPick WGd
def hasName (p : Int) : Bool := (p == 3) || (decide (8 ≤ p) && decide (p ≤ 14))
def XQ (Z : Nat → Prop) (H0 h' : Heap) (ki kr : Nat) (bv : Value) (bs : List Int) (x : RS) (kt : Nat) (T : TypeId) (L : List Blk) (ds : List Int) : Prop :=
  ∃ dv, XR Z H0 h' ki kr bv bs x.s x.bad ((kt, x.cs.set 28 dv, T) :: L) ∧ OutB H0 h' dv ds
theorem XQ.of {Z : Nat → Prop} {H0 h' : Heap} {ki kr : Nat} {bv : Value} {bs : List Int} {x : RS} {kt : Nat} {T : TypeId} {L : List Blk} (c : XRS Z H0 h' ki kr bv bs x kt T L) (hd : x.cs[28]? = some (.slice none 0 0)) : XQ Z H0 h' ki kr bv bs x kt T L [] := by
  refine ⟨.slice none 0 0, ?_, OutB.nil⟩
  have e : x.cs.set 28 (.slice none 0 0) = x.cs := by
    obtain ⟨hl, he⟩ := List.getElem?_eq_some_iff.1 hd
    rw [← he]; exact List.set_getElem_self hl
  rw [e]; exact c
end Go.Proofs.Ytanknjpcgceccaa

namespace Go.Proofs.Ytanknjpcgceccaa
open Go Go.AM
set_option linter.unusedSimpArgs false
set_option maxRecDepth 100000
attribute [local irreducible] WOps WV WH WSt WNil WPick WGd
structure WB (Z : Nat → Prop) (H0 h : Heap) (kw : Nat) (TW : TypeId) (wv : Value) (bs : List Value) (L : List Blk) : Prop where
  st : St Z H0 h ((kw, [wv], TW) :: L)
  buf : Buf h 5 wv bs
  off : ∀ j, bufBlk wv j → j ≠ kw ∧ ¬ Z j ∧ ∀ x ∈ L, x.1 ≠ j
  one : bs.all Value.oneCell' = true
section
variable {Z : Nat → Prop} {H0 h h' : Heap} {kw k o : Nat} {TW T : TypeId} {wv v' : Value} {bs bs' cs cs' : List Value} {L L' : List Blk} {x : Blk}
theorem WB.wr (c : WB Z H0 h kw TW wv bs L) : WR h kw TW wv bs := ⟨c.st.hd, c.buf, fun hh => (c.off kw hh).1 rfl⟩
theorem WB.lt (c : WB Z H0 h kw TW wv bs L) : ∀ j, bufBlk wv j → j < h.next := by
  rintro j ⟨a, n, d, e⟩
  exact c.buf.blk e
theorem WB.write (c : WB Z H0 h kw TW wv bs L) (hw : WR h' kw TW v' bs') (hs : Same h h' (own wv kw)) (hf : ∀ j, own v' kw j → own wv kw j ∨ h.next ≤ j) (h1 : bs'.all Value.oneCell' = true) : WB Z H0 h' kw TW v' bs' L := by
  have hL : ∀ x ∈ L, ¬ own wv kw x.1 := fun x hx hh => hh.elim (fun e => c.st.ne x hx e) (fun e => (c.off _ e).2.2 x hx rfl)
  have hZ : ∀ j, Z j → ¬ own wv kw j := fun j hj hh => hh.elim (fun e => c.st.off (kw, [wv], TW) (by simp) (by rw [← e]; exact hj)) (fun e => (c.off _ e).2.1 hj)
  have s1 : St Z H0 h' L := c.st.tail.keep hs hL hZ
  refine ⟨⟨s1.nx, s1.stay, fun x hx => ?_, c.st.nodup, fun x hx => ?_, s1.low⟩, hw.2.1, fun j hj => ?_, h1⟩
  · rcases List.mem_cons.1 hx with rfl | hx
    · exact hw.1
    · exact s1.get x hx
  · rcases List.mem_cons.1 hx with rfl | hx
    · exact c.st.off (kw, [wv], TW) (by simp)
    · exact s1.off x hx
  · rcases hf j (.inr hj) with hh | hn
    · rcases hh with rfl | hb
      · exact absurd hj hw.2.2
      · exact c.off j hb
    · refine ⟨fun e => ?_, fun z => ?_, fun x hx e => ?_⟩
      · have : kw < h.next := Heap.get_lt c.st.hd
        omega
      · have := c.st.low j z
        have := c.st.nx
        omega
      · have := c.st.lt (List.mem_cons_of_mem _ hx)
        omega
theorem WB.perm (c : WB Z H0 h kw TW wv bs L) (p : L.Perm L') : WB Z H0 h kw TW wv bs L' :=
  ⟨c.st.perm (p.cons _), c.buf, fun j hj => ⟨(c.off j hj).1, (c.off j hj).2.1, fun x hx => (c.off j hj).2.2 x (p.mem_iff.2 hx)⟩, c.one⟩
theorem WB.drop (c : WB Z H0 h kw TW wv bs (x :: L)) : WB Z H0 h kw TW wv bs L :=
  ⟨c.st.swap.tail, c.buf, fun j hj => ⟨(c.off j hj).1, (c.off j hj).2.1, fun y hy => (c.off j hj).2.2 y (List.mem_cons_of_mem _ hy)⟩, c.one⟩
theorem WB.upd (c : WB Z H0 h kw TW wv bs ((k, cs, T) :: L)) (hs : Same h h' (onlyS k)) (hg : h'.get k = some (.cells cs' T false)) : WB Z H0 h' kw TW wv bs ((k, cs', T) :: L) :=
  ⟨(c.st.swap.upd hs hg).swap, c.buf.same hs (fun j hj e => (c.off j hj).2.2 (k, cs, T) (by simp) (by have e : j = k := e; exact e.symm)), fun j hj => ⟨(c.off j hj).1, (c.off j hj).2.1, fun y hy => by
    rcases List.mem_cons.1 hy with rfl | hy
    · exact (c.off j hj).2.2 (k, cs, T) (by simp)
    · exact (c.off j hj).2.2 y (List.mem_cons_of_mem _ hy)⟩, c.one⟩
theorem WB.alloc (c : WB Z H0 h kw TW wv bs L) (cs : List Value) (T : TypeId) : WB Z H0 (h.push (.cells cs T false)) kw TW wv bs ((h.next, cs, T) :: L) :=
  ⟨(c.st.push cs T).swap, c.buf.same (Same.push _ _ noS) (fun _ _ x => x), fun j hj => ⟨(c.off j hj).1, (c.off j hj).2.1, fun y hy => by
    rcases List.mem_cons.1 hy with rfl | hy
    · have := c.lt j hj
      simp only; omega
    · exact (c.off j hj).2.2 y hy⟩, c.one⟩
theorem WB.ld {t : TypeId} {d : TypeDesc} (c : WB Z H0 h kw TW wv bs ((k, cs, T) :: L)) (hu : Try.prog.underlying t = some d) (h1 : ∀ fs, d ≠ .struct fs) (h2 : ∀ n e, d ≠ .array n e) (o : Nat) : aLoad Try.prog h t (pt k o) = cs[o]? :=
  c.st.swap.ld hu h1 h2 o
theorem WB.put {t : TypeId} {i : TypeInfo} {v : Value} (c : WB Z H0 h kw TW wv bs ((k, cs, T) :: L)) (hi : Try.prog.info? t = some i) (hs : i.size = 1) (o : Nat) (ho : o < cs.length) (hv : v.cells = #[v]) (h1 : v.oneCell' = true) :
    ∃ h2, aStore Try.prog h t (pt k o) v = some h2 ∧ WB Z H0 h2 kw TW wv bs ((k, cs.set o v, T) :: L) := by
  have q := c.st.swap.st (P := Try.prog) hi hs o ho hv h1
  exact ⟨_, q.1, c.upd (Same.set1 h k _) (Heap.get_set_eq c.st.swap.hd)⟩
theorem WB.via (c : WB Z H0 h kw TW wv bs L) : St (fun j => Z j ∨ bufBlk wv j) h h ((kw, [wv], TW) :: L) :=
  ⟨Nat.le_refl _, fun _ _ e _ => e, c.st.get, c.st.nodup, fun x hx hh => hh.elim (c.st.off x hx) (fun hb => by
    rcases List.mem_cons.1 hx with rfl | hx
    · exact (c.off _ hb).1 rfl
    · exact (c.off _ hb).2.2 x hx rfl), fun j hh => hh.elim (fun z => Nat.lt_of_lt_of_le (c.st.low j z) c.st.nx) (c.lt j)⟩
theorem WB.back (c : WB Z H0 h kw TW wv bs L) (s : St (fun j => Z j ∨ bufBlk wv j) h h' ((kw, [wv], TW) :: L')) : WB Z H0 h' kw TW wv bs L' :=
  ⟨⟨Nat.le_trans c.st.nx s.nx, fun j e he z => s.stay j e (c.st.stay j e he z) (.inl z), s.get, s.nodup, fun x hx z => s.off x hx (.inl z), c.st.low⟩,
   c.buf.same (S := fun j => ¬ (Z j ∨ bufBlk wv j)) ⟨s.nx, fun j e he hn => s.stay j e he (Classical.not_not.1 hn)⟩ (fun j hj hn => hn (.inr hj)),
   fun j hj => ⟨(c.off j hj).1, (c.off j hj).2.1, fun x hx e => s.off x (List.mem_cons_of_mem _ hx) (.inr (e ▸ hj))⟩, c.one⟩
end
abbrev TWp : TypeId := 134
abbrev CW (Z : Nat → Prop) (H0 h : Heap) (kc kw : Nat) (wv : Value) (bs : List Value) (bad : Bool) (L : List Blk) : Prop := WB Z H0 h kw TWp wv bs ((kc, [.pointer none, pt kw 0, .bool bad], TC) :: L)
section
variable {Z : Nat → Prop} {H0 h h' : Heap} {kc kw kt o : Nat} {wv v' : Value} {bs bs' cs : List Value} {L : List Blk} {x y : Blk} {bad : Bool} {T : TypeId}
theorem CW.lw (c : CW Z H0 h kc kw wv bs bad L) : aLoad Try.prog h 67 (.pointer (some ⟨kc, 0 + 1, none⟩)) = some (pt kw 0) := by rw [WB.ld c Try.underlying67 (by simp) (by simp)]; rfl
theorem CW.lb (c : CW Z H0 h kc kw wv bs bad L) : aLoad Try.prog h 4 (.pointer (some ⟨kc, 0 + 2, none⟩)) = some (.bool bad) := by rw [WB.ld c Try.underlying4 (by simp) (by simp)]; rfl
theorem CW.ld {t : TypeId} {d : TypeDesc} (c : CW Z H0 h kc kw wv bs bad ((kt, cs, T) :: L)) (hu : Try.prog.underlying t = some d) (h1 : ∀ fs, d ≠ .struct fs) (h2 : ∀ n e, d ≠ .array n e) (o : Nat) : aLoad Try.prog h t (pt kt o) = cs[o]? :=
  (WB.perm c (.swap _ _ _)).ld hu h1 h2 o
theorem CW.put {t : TypeId} {i : TypeInfo} {v : Value} (c : CW Z H0 h kc kw wv bs bad ((kt, cs, T) :: L)) (hi : Try.prog.info? t = some i) (hs : i.size = 1) (o : Nat) (ho : o < cs.length) (hv : v.cells = #[v]) (h1 : v.oneCell' = true) :
    ∃ h2, aStore Try.prog h t (pt kt o) v = some h2 ∧ CW Z H0 h2 kc kw wv bs bad ((kt, cs.set o v, T) :: L) := by
  obtain ⟨h2, p, q⟩ := (WB.perm c (.swap _ _ _)).put hi hs o ho hv h1
  exact ⟨h2, p, q.perm (.swap _ _ _)⟩
theorem CW.alloc (c : CW Z H0 h kc kw wv bs bad L) (cs : List Value) (T : TypeId) : CW Z H0 (h.push (.cells cs T false)) kc kw wv bs bad ((h.next, cs, T) :: L) := (WB.alloc c cs T).perm (.swap _ _ _)
theorem CW.drop (c : CW Z H0 h kc kw wv bs bad (x :: L)) : CW Z H0 h kc kw wv bs bad L := (WB.perm c (.swap _ _ _)).drop
theorem CW.swap (c : CW Z H0 h kc kw wv bs bad (x :: y :: L)) : CW Z H0 h kc kw wv bs bad (y :: x :: L) := WB.perm c ((List.Perm.swap _ _ _).cons _)
theorem mustW_am (is : Bool) (c : CW Z H0 h kc kw wv bs bad L) : Cl Try.prog 70 [pt kc 0, .bool is] h fun v h' => v = .tuple #[] ∧ CW Z H0 h' kc kw wv bs (bad || !is) L :=
  (must_am is bad _ _ _ h h kc _ (WB.via c).swap).mono fun v h' q => ⟨q.1, WB.back c q.2.swap⟩
theorem CW.done (c : CW Z H0 h kc kw wv bs bad L) {r : Value} (q : WQ h kw TWp wv bs' r h') (h1 : bs'.all Value.oneCell' = true) : r = .tuple #[] ∧ ∃ v', CW Z H0 h' kc kw v' bs' bad L := by
  obtain ⟨hr, v', hw, hs, hf⟩ := q
  exact ⟨hr, v', WB.write c hw hs hf h1⟩
end
end Go.Proofs.Ytanknjpcgceccaa

namespace Go.Proofs.Ytanknjpcgceccaa
open Go Go.AM
set_option linter.unusedSimpArgs false
set_option maxRecDepth 100000
attribute [local irreducible] WOps WV WH WSt WNil WPick WGd
theorem WD1_buildSlice {P : Program} {ops : Array Oper} {Q : List Rec → List Value → Heap → Prop} {l : List Oper} {acc : List Rec} {env : List Value} {h : Heap} {d : Option Tmp} {ty : TypeId} {ps : String} {af : Array Edge} {g : Option (Nat × Bool)} {t : TypeId} {n : Nat} {p : Array (Nat × Operand)} :
    WD1 P ops Q ⟨d, .buildSlice t n p, ty, ps, af, g⟩ l acc env h = DH P ops Q l acc ⟨d, .buildSlice t n p, ty, ps, af, g⟩ env h (aBuildSlice P h t n (p.toList.map fun q => (q.1, aEval env q.2))) := (WD1_op rfl)
section
variable {h : Heap}
theorem bsB {b : Bool} : aBuildSlice Try.prog h 161 1 [(0, .bool b)] = some (.slice (some ⟨h.next, 0, none⟩) 1 1, h.push (.cells [.bool b] 4 false)) := by kernel_rfl
theorem bs32 {n : Int} : aBuildSlice Try.prog h 148 1 [(0, .int .u32 n)] = some (.slice (some ⟨h.next, 0, none⟩) 1 1, h.push (.cells [.int .u32 n] 23 false)) := by kernel_rfl
theorem bs64 {n : Int} : aBuildSlice Try.prog h 164 1 [(0, .int .u64 n)] = some (.slice (some ⟨h.next, 0, none⟩) 1 1, h.push (.cells [.int .u64 n] 24 false)) := by kernel_rfl
end
theorem veqB_ptr (a : Option Addr) : veqB 6 (.pointer a) (.pointer a) = true := by simp [veqB]
theorem WB.offRow {Z : Nat → Prop} {H0 h : Heap} {kw kl : Nat} {TW T : TypeId} {wv : Value} {bs vs : List Value} {L : List Blk} {n : Nat} (c : WB Z H0 h kw TW wv bs L) (hx : (kl, vs, T) ∈ L) (hn : n = vs.length) : Off h wv kw (.slice (some ⟨kl, 0, none⟩) n n) vs := by
  subst hn
  have hg := c.st.get (kl, vs, T) (List.mem_cons_of_mem _ hx)
  refine ⟨by have := Row.whole (cap := vs.length) hg; simpa using this, fun a m d e _ => ?_⟩
  injection e with e1
  injection e1 with e1
  subst e1
  exact ⟨fun hh => hh.elim (fun e => c.st.ne _ hx e) (fun hb => (c.off _ hb).2.2 _ hx rfl), Heap.get_lt hg⟩
theorem flatLen (n : Nat) (hn : n ≤ 8) : ∀ ps : List (Nat × Int), (ps.flatMap (fun p => beTo p.2 n)).length ≤ 8 * ps.length
  | [] => by simp
  | p :: ps => by
    have := flatLen n hn ps
    rw [List.flatMap_cons, List.length_append, List.length_cons, beTo_length]
    omega
section
variable (Z : Nat → Prop) (H0 h : Heap) (kc kw : Nat) (wv : Value) (bs : List Value) (bad : Bool) (L : List Blk) (kt : Nat) (cs : List Value) (T : TypeId)
set_option maxHeartbeats 1000000 in
theorem truthW_am (o : Nat) (b : Bool) (c : CW Z H0 h kc kw wv bs bad ((kt, cs, T) :: L)) (hb : cs[o]? = some (.bool b)) (hlen : bs.length ≤ 700000000) :
    Cl Try.prog 53 [pt kc 0, pt kt o] h fun v h' => v = .bool b ∧ ∃ v', CW Z H0 h' kc kw v' (bs ++ beTo (if b = true then 1 else 0) 4) bad ((kt, cs, T) :: L) := by
  refine Cl.enter Try.func53 rfl 29 Try.ntmps53 (by simp) ?_
  intro env hl ha
  have h0 : sl env 0 = pt kc 0 := ha 0 (by simp)
  have h1 : sl env 1 = pt kt o := ha 1 (by simp)
  clear ha
  have lw := c.lw
  have ld := CW.ld c Try.underlying4 (by simp) (by simp) o
  rw [hb] at ld
  repeat (first | (with_reducible refine Wp.st ?_; simp only [wS]) | with_reducible refine Wp.drawS (by decide +kernel) ?_ | simp (disch := (first | (simp only [List.length_set, hl]; omega) | omega | rfl)) only [walkA, walkB, bne_self_eq_false, beq_self_eq_true, Option.map_some, Option.map_none, reduceIte, decide_true, decide_false, Int.reduceLT, Int.reduceLE, Int.reduceMul, Int.reduceAdd, Int.reduceSub, h0, h1, faC1, lw, pw_np])
  refine Wp.cond_true (by first | ((simp (disch := (first | (simp only [List.length_set, hl]; omega) | omega | rfl)) only [sL, aEval_tmp]); done) | ((simp (disch := (first | (simp only [List.length_set, hl]; omega) | omega | rfl)) only [sL, aEval_tmp]); rfl)) ?_
  refine Wp.drawU [(3, 7)] (by kernel_rfl) ?_
  repeat (simp (disch := (first | (simp only [List.length_set, hl]; omega) | omega | rfl)) only [WD_none, WD_guard, WDG_tt, WDG_ff, WDG_tf, WDG_ft, gval_some, nthD_zero, nthD_succ, WD1_move, WD1_assign, WD1_call, WD1_load, WD1_convert, WD1_fieldAddr, WD1_field, WD1_indexAddr, WD1_extract, WD1_binOp, WD1_unOp, WD1_builtin, WD1_slice2, WD1_slice1, WD1_nilCheck, WD1_pick, DPick_bool, DNil_ptr, DH_some, WDraw_nil, withH_val, aEval_tmp, aEval_const, aPut_some, aPut_none, List.length_set, List.map_cons, List.map_nil, sl_eq, sl_ne, cond_true, cond_false, bin_add, bin_sub, bin_eql, bin_neq, bin_lss, bin_leq, bin_gtr, bin_geq, bne_self_eq_false, beq_self_eq_true, un_not, Bool.not_true, Bool.not_false, wrap_i64, h0, h1, faC1, lw, ld, WD1_buildSlice, bsB])
  have c1 := CW.alloc c [.bool b] 4
  have of1 : Off _ wv kw (.slice (some ⟨h.next, 0, none⟩) 1 1) ([b].map Value.bool) := WB.offRow (T := 4) c1 (by simp) rfl
  have lw1 := c1.lw
  have ne : aLoad Try.prog h 4 (pt kt o) = some (.bool b) := ld
  refine (bool_am _ [b] kw wv bs _ of1 c1.wr c.one (by simp; omega)).mono ?_
  intro v hd q
  obtain ⟨hr, v', c2⟩ := CW.done c1 q (all_append' c.one (flat_all' _ _ (fun _ _ => beTo_all _ _)))
  rw [hr]
  have ld2 := CW.ld (CW.drop c2) Try.underlying4 (by simp) (by simp) o
  rw [hb] at ld2
  repeat (simp (disch := (first | (simp only [List.length_set, hl]; omega) | omega | rfl)) only [WD_none, WD_guard, WDG_tt, WDG_ff, WDG_tf, WDG_ft, gval_some, nthD_zero, nthD_succ, WD1_move, WD1_assign, WD1_call, WD1_load, WD1_convert, WD1_fieldAddr, WD1_field, WD1_indexAddr, WD1_extract, WD1_binOp, WD1_unOp, WD1_builtin, WD1_slice2, WD1_slice1, WD1_nilCheck, WD1_pick, DPick_bool, DNil_ptr, DH_some, WDraw_nil, withH_val, aEval_tmp, aEval_const, aPut_some, aPut_none, List.length_set, List.map_cons, List.map_nil, sl_eq, sl_ne, cond_true, cond_false, bin_add, bin_sub, bin_eql, bin_neq, bin_lss, bin_leq, bin_gtr, bin_geq, bne_self_eq_false, beq_self_eq_true, un_not, Bool.not_true, Bool.not_false, wrap_i64, h0, h1])
  refine ⟨?_, ?_⟩
  · simp only [okPair, List.reverse_cons, List.reverse_nil, List.nil_append, List.cons_append, List.getElem?_cons_zero, List.getElem?_cons_succ, List.mem_cons, List.not_mem_nil, or_false, forall_eq_or_imp, forall_eq, Nat.blt_eq, blt_true, blt_false, cond_true, cond_false, Bool.true_eq_false, Bool.false_eq_true, false_or]
    refine sameAt_load ?_ (veqB_ptr _)
    (simp (disch := (first | (simp only [List.length_set, hl]; omega) | omega | rfl)) only [sL, aEval_tmp])
    exact lw1
  repeat (first | (with_reducible refine Wp.st ?_; simp only [wS]) | with_reducible refine Wp.drawS (by decide +kernel) ?_ | simp (disch := (first | (simp only [List.length_set, hl]; omega) | omega | rfl)) only [walkA, walkB, bne_self_eq_false, beq_self_eq_true, Option.map_some, Option.map_none, reduceIte, decide_true, decide_false, Int.reduceLT, Int.reduceLE, Int.reduceMul, Int.reduceAdd, Int.reduceSub, h0, h1, ld2])
  simp (disch := (first | (simp only [List.length_set, hl]; omega) | omega | rfl)) only [aRes_one Try.results53, sL]
  exact ⟨trivial, v', by simpa using CW.drop c2⟩
set_option maxHeartbeats 1000000 in
theorem u32W_am (kl : Nat) (Tp : TypeId) (ps : List (Nat × Int)) (c : CW Z H0 h kc kw wv bs bad ((kt, cs, T) :: (kl, ps.map (fun p => pt kt p.1), Tp) :: L)) (hp : ∀ p ∈ ps, cs[p.1]? = some (.int .u32 p.2) ∧ 0 ≤ p.2 ∧ p.2 < 4294967296) (hn : ps.length ≤ 1000) (hlen : bs.length ≤ 700000000) :
    Cl Try.prog 55 [pt kc 0, .slice (some ⟨kl, 0, none⟩) ps.length ps.length] h fun v h' => v = .tuple #[] ∧ ∃ v', CW Z H0 h' kc kw v' (bs ++ ps.flatMap (fun p => beTo p.2 4)) bad ((kt, cs, T) :: L) := by
  refine Cl.enter Try.func55 rfl 34 Try.ntmps55 (by simp) ?_
  intro env hl ha
  have h0 : sl env 0 = pt kc 0 := ha 0 (by simp)
  have h1 : sl env 1 = .slice (some ⟨kl, 0, none⟩) ps.length ps.length := ha 1 (by simp)
  clear ha
  have row : ∀ {h : Heap} {wv : Value} {bs : List Value}, CW Z H0 h kc kw wv bs bad ((kt, cs, T) :: (kl, ps.map (fun p => pt kt p.1), Tp) :: L) → Row h (.slice (some ⟨kl, 0, none⟩) ps.length ps.length) (ps.map (fun p => pt kt p.1)) := fun c => (WB.offRow (T := Tp) c (by simp) (by simp)).1
  have hl2 := len_any (row c) Try.underlying142
  simp only [List.length_map] at hl2
  repeat (first | (with_reducible refine Wp.st ?_; simp only [wS]) | with_reducible refine Wp.drawS (by decide +kernel) ?_ | simp (disch := (first | (simp only [List.length_set, hl]; omega) | omega | rfl)) only [walkA, walkB, bne_self_eq_false, beq_self_eq_true, Option.map_some, Option.map_none, reduceIte, decide_true, decide_false, Int.reduceLT, Int.reduceLE, Int.reduceMul, Int.reduceAdd, Int.reduceSub, h0, h1, hl2])
  refine Wp.loop (fun m e hh => ∃ (j : Nat) (v' : Value), j + m = ps.length ∧ e.length = 34 ∧ sl e 0 = pt kc 0 ∧ sl e 6 = .slice (some ⟨kl, 0, none⟩) ps.length ps.length ∧ sl e 7 = .int .i64 ps.length ∧ sl e 8 = .int .i64 j ∧
      CW Z H0 hh kc kw v' (bs ++ (ps.take j).flatMap (fun p => beTo p.2 4)) bad ((kt, cs, T) :: (kl, ps.map (fun p => pt kt p.1), Tp) :: L)) ps.length
    ⟨0, wv, by omega, by simp [hl], by (simp (disch := (first | (simp only [List.length_set, hl]; omega) | omega | rfl)) only [sL, h0]), by (simp (disch := (first | (simp only [List.length_set, hl]; omega) | omega | rfl)) only [sL, h1]), by (simp (disch := (first | (simp only [List.length_set, hl]; omega) | omega | rfl)) only [sL]), by (simp (disch := (first | (simp only [List.length_set, hl]; omega) | omega | rfl)) only [sL]); rfl, by simpa using c⟩ ?_
  clear h0 h1 hl env hl2 c
  rintro m e hh ⟨j, v', hj, hl, e0, e6, e7, e8, c⟩
  repeat (first | (with_reducible refine Wp.st ?_; simp only [wS]) | with_reducible refine Wp.drawS (by decide +kernel) ?_ | simp (disch := (first | (simp only [List.length_set, hl]; omega) | omega | rfl)) only [walkA, walkB, bne_self_eq_false, beq_self_eq_true, Option.map_some, Option.map_none, reduceIte, decide_true, decide_false, Int.reduceLT, Int.reduceLE, Int.reduceMul, Int.reduceAdd, Int.reduceSub, e0, e6, e7, e8])
  by_cases hlt : j < ps.length
  · refine Wp.cond_true (by (simp (disch := (first | (simp only [List.length_set, hl]; omega) | omega | rfl)) only [sL, aEval_tmp]); simpa using hlt) ?_
    have lw := c.lw
    obtain ⟨k, off, hx1, hx2⟩ := (row c).index (P := Try.prog) Try.underlying142 iPU32 rfl (j := j) (kd := .i64) (by simpa using hlt)
    rw [← aLoad_one (P := Try.prog) Try.underlying123 (by simp) (by simp), List.getElem_map] at hx2
    have hpj := hp _ (List.getElem_mem hlt)
    have htk : (ps.take (j + 1)).flatMap (fun p => beTo p.2 4) = (ps.take j).flatMap (fun p => beTo p.2 4) ++ beTo (ps[j]).2 4 := by
      rw [List.take_succ_eq_append_getElem hlt, List.flatMap_append]; simp
    have hfl : ((ps.take j).flatMap (fun p => beTo p.2 4)).length ≤ 8 * j := by
      have := flatLen 4 (by decide) (ps.take j)
      rw [List.length_take] at this
      omega
    generalize ps[j] = pj at hx2 hpj htk
    have ld := CW.ld c Try.underlying23 (by simp) (by simp) pj.1
    rw [hpj.1] at ld
    repeat (first | (with_reducible refine Wp.st ?_; simp only [wS]) | with_reducible refine Wp.drawS (by decide +kernel) ?_ | simp (disch := (first | (simp only [List.length_set, hl]; omega) | omega | rfl)) only [walkA, walkB, bne_self_eq_false, beq_self_eq_true, Option.map_some, Option.map_none, reduceIte, decide_true, decide_false, Int.reduceLT, Int.reduceLE, Int.reduceMul, Int.reduceAdd, Int.reduceSub, e0, e6, e7, e8, hx1, hx2, faC1, lw, pw_np])
    refine Wp.cond_true (by first | ((simp (disch := (first | (simp only [List.length_set, hl]; omega) | omega | rfl)) only [sL, aEval_tmp]); done) | ((simp (disch := (first | (simp only [List.length_set, hl]; omega) | omega | rfl)) only [sL, aEval_tmp]); rfl)) ?_
    refine Wp.drawU [(3, 7)] (by kernel_rfl) ?_
    repeat (simp (disch := (first | (simp only [List.length_set, hl]; omega) | omega | rfl)) only [WD_none, WD_guard, WDG_tt, WDG_ff, WDG_tf, WDG_ft, gval_some, nthD_zero, nthD_succ, WD1_move, WD1_assign, WD1_call, WD1_load, WD1_convert, WD1_fieldAddr, WD1_field, WD1_indexAddr, WD1_extract, WD1_binOp, WD1_unOp, WD1_builtin, WD1_slice2, WD1_slice1, WD1_nilCheck, WD1_pick, DPick_bool, DNil_ptr, DH_some, WDraw_nil, withH_val, aEval_tmp, aEval_const, aPut_some, aPut_none, List.length_set, List.map_cons, List.map_nil, sl_eq, sl_ne, cond_true, cond_false, bin_add, bin_sub, bin_eql, bin_neq, bin_lss, bin_leq, bin_gtr, bin_geq, bne_self_eq_false, beq_self_eq_true, un_not, Bool.not_true, Bool.not_false, wrap_i64, e0, e6, e7, e8, faC1, lw, ld, WD1_buildSlice, bs32])
    have c1 := CW.alloc c [.int .u32 pj.2] 23
    have of1 : Off _ v' kw (.slice (some ⟨hh.next, 0, none⟩) 1 1) ([pj.2].map (Value.int .u32)) := WB.offRow (T := 23) c1 (by simp) rfl
    have lw1 := c1.lw
    refine (u32_am _ [pj.2] kw v' _ _ of1 (by simpa using hpj.2) c1.wr c.one (by rw [List.length_append, List.length_singleton]; omega)).mono ?_
    intro v hd q
    obtain ⟨hr, v2, c2⟩ := CW.done c1 q (all_append' c.one (flat_all' _ _ (fun _ _ => beTo_all _ _)))
    rw [hr]
    repeat (simp (disch := (first | (simp only [List.length_set, hl]; omega) | omega | rfl)) only [WD_none, WD_guard, WDG_tt, WDG_ff, WDG_tf, WDG_ft, gval_some, nthD_zero, nthD_succ, WD1_move, WD1_assign, WD1_call, WD1_load, WD1_convert, WD1_fieldAddr, WD1_field, WD1_indexAddr, WD1_extract, WD1_binOp, WD1_unOp, WD1_builtin, WD1_slice2, WD1_slice1, WD1_nilCheck, WD1_pick, DPick_bool, DNil_ptr, DH_some, WDraw_nil, withH_val, aEval_tmp, aEval_const, aPut_some, aPut_none, List.length_set, List.map_cons, List.map_nil, sl_eq, sl_ne, cond_true, cond_false, bin_add, bin_sub, bin_eql, bin_neq, bin_lss, bin_leq, bin_gtr, bin_geq, bne_self_eq_false, beq_self_eq_true, un_not, Bool.not_true, Bool.not_false, wrap_i64, e0, e6])
    refine ⟨?_, ?_⟩
    · simp only [okPair, List.reverse_cons, List.reverse_nil, List.nil_append, List.cons_append, List.getElem?_cons_zero, List.getElem?_cons_succ, List.mem_cons, List.not_mem_nil, or_false, forall_eq_or_imp, forall_eq, Nat.blt_eq, blt_true, blt_false, cond_true, cond_false, Bool.true_eq_false, Bool.false_eq_true, false_or]
      refine sameAt_load ?_ (veqB_ptr _)
      (simp (disch := (first | (simp only [List.length_set, hl]; omega) | omega | rfl)) only [sL, aEval_tmp])
      exact lw1
    repeat (first | (with_reducible refine Wp.st ?_; simp only [wS]) | with_reducible refine Wp.drawS (by decide +kernel) ?_ | simp (disch := (first | (simp only [List.length_set, hl]; omega) | omega | rfl)) only [walkA, walkB, bne_self_eq_false, beq_self_eq_true, Option.map_some, Option.map_none, reduceIte, decide_true, decide_false, Int.reduceLT, Int.reduceLE, Int.reduceMul, Int.reduceAdd, Int.reduceSub, e0, e6, e7, e8])
    refine ⟨m - 1, by omega, j + 1, v2, by omega, by simp [hl], by (simp (disch := (first | (simp only [List.length_set, hl]; omega) | omega | rfl)) only [sL, e0]), by (simp (disch := (first | (simp only [List.length_set, hl]; omega) | omega | rfl)) only [sL, e6]), by (simp (disch := (first | (simp only [List.length_set, hl]; omega) | omega | rfl)) only [sL, e7]), by (simp (disch := (first | (simp only [List.length_set, hl]; omega) | omega | rfl)) only [sL, Int.natCast_add]); rfl, ?_⟩
    rw [htk, ← List.append_assoc]
    simpa using CW.drop c2
  · refine Wp.cond_false (by (simp (disch := (first | (simp only [List.length_set, hl]; omega) | omega | rfl)) only [sL, aEval_tmp]); simpa using hlt) ?_
    repeat (first | (with_reducible refine Wp.st ?_; simp only [wS]) | with_reducible refine Wp.drawS (by decide +kernel) ?_ | simp (disch := (first | (simp only [List.length_set, hl]; omega) | omega | rfl)) only [walkA, walkB, bne_self_eq_false, beq_self_eq_true, Option.map_some, Option.map_none, reduceIte, decide_true, decide_false, Int.reduceLT, Int.reduceLE, Int.reduceMul, Int.reduceAdd, Int.reduceSub, e0, e6, e7, e8])
    simp only [aRes_none Try.results55]
    rw [List.take_of_length_le (by omega)] at c
    exact ⟨trivial, v', CW.drop (CW.swap c)⟩
set_option maxHeartbeats 1000000 in
theorem u64W_am (kl : Nat) (Tp : TypeId) (ps : List (Nat × Int)) (c : CW Z H0 h kc kw wv bs bad ((kt, cs, T) :: (kl, ps.map (fun p => pt kt p.1), Tp) :: L)) (hp : ∀ p ∈ ps, cs[p.1]? = some (.int .u64 p.2) ∧ True) (hn : ps.length ≤ 1000) (hlen : bs.length ≤ 700000000) :
    Cl Try.prog 56 [pt kc 0, .slice (some ⟨kl, 0, none⟩) ps.length ps.length] h fun v h' => v = .tuple #[] ∧ ∃ v', CW Z H0 h' kc kw v' (bs ++ ps.flatMap (fun p => beTo p.2 8)) bad ((kt, cs, T) :: L) := by
  refine Cl.enter Try.func56 rfl 34 Try.ntmps56 (by simp) ?_
  intro env hl ha
  have h0 : sl env 0 = pt kc 0 := ha 0 (by simp)
  have h1 : sl env 1 = .slice (some ⟨kl, 0, none⟩) ps.length ps.length := ha 1 (by simp)
  clear ha
  have row : ∀ {h : Heap} {wv : Value} {bs : List Value}, CW Z H0 h kc kw wv bs bad ((kt, cs, T) :: (kl, ps.map (fun p => pt kt p.1), Tp) :: L) → Row h (.slice (some ⟨kl, 0, none⟩) ps.length ps.length) (ps.map (fun p => pt kt p.1)) := fun c => (WB.offRow (T := Tp) c (by simp) (by simp)).1
  have hl2 := len_any (row c) Try.underlying143
  simp only [List.length_map] at hl2
  repeat (first | (with_reducible refine Wp.st ?_; simp only [wS]) | with_reducible refine Wp.drawS (by decide +kernel) ?_ | simp (disch := (first | (simp only [List.length_set, hl]; omega) | omega | rfl)) only [walkA, walkB, bne_self_eq_false, beq_self_eq_true, Option.map_some, Option.map_none, reduceIte, decide_true, decide_false, Int.reduceLT, Int.reduceLE, Int.reduceMul, Int.reduceAdd, Int.reduceSub, h0, h1, hl2])
  refine Wp.loop (fun m e hh => ∃ (j : Nat) (v' : Value), j + m = ps.length ∧ e.length = 34 ∧ sl e 0 = pt kc 0 ∧ sl e 6 = .slice (some ⟨kl, 0, none⟩) ps.length ps.length ∧ sl e 7 = .int .i64 ps.length ∧ sl e 8 = .int .i64 j ∧
      CW Z H0 hh kc kw v' (bs ++ (ps.take j).flatMap (fun p => beTo p.2 8)) bad ((kt, cs, T) :: (kl, ps.map (fun p => pt kt p.1), Tp) :: L)) ps.length
    ⟨0, wv, by omega, by simp [hl], by (simp (disch := (first | (simp only [List.length_set, hl]; omega) | omega | rfl)) only [sL, h0]), by (simp (disch := (first | (simp only [List.length_set, hl]; omega) | omega | rfl)) only [sL, h1]), by (simp (disch := (first | (simp only [List.length_set, hl]; omega) | omega | rfl)) only [sL]), by (simp (disch := (first | (simp only [List.length_set, hl]; omega) | omega | rfl)) only [sL]); rfl, by simpa using c⟩ ?_
  clear h0 h1 hl env hl2 c
  rintro m e hh ⟨j, v', hj, hl, e0, e6, e7, e8, c⟩
  repeat (first | (with_reducible refine Wp.st ?_; simp only [wS]) | with_reducible refine Wp.drawS (by decide +kernel) ?_ | simp (disch := (first | (simp only [List.length_set, hl]; omega) | omega | rfl)) only [walkA, walkB, bne_self_eq_false, beq_self_eq_true, Option.map_some, Option.map_none, reduceIte, decide_true, decide_false, Int.reduceLT, Int.reduceLE, Int.reduceMul, Int.reduceAdd, Int.reduceSub, e0, e6, e7, e8])
  by_cases hlt : j < ps.length
  · refine Wp.cond_true (by (simp (disch := (first | (simp only [List.length_set, hl]; omega) | omega | rfl)) only [sL, aEval_tmp]); simpa using hlt) ?_
    have lw := c.lw
    obtain ⟨k, off, hx1, hx2⟩ := (row c).index (P := Try.prog) Try.underlying143 iPU64 rfl (j := j) (kd := .i64) (by simpa using hlt)
    rw [← aLoad_one (P := Try.prog) Try.underlying125 (by simp) (by simp), List.getElem_map] at hx2
    have hpj := hp _ (List.getElem_mem hlt)
    have htk : (ps.take (j + 1)).flatMap (fun p => beTo p.2 8) = (ps.take j).flatMap (fun p => beTo p.2 8) ++ beTo (ps[j]).2 8 := by
      rw [List.take_succ_eq_append_getElem hlt, List.flatMap_append]; simp
    have hfl : ((ps.take j).flatMap (fun p => beTo p.2 8)).length ≤ 8 * j := by
      have := flatLen 8 (by decide) (ps.take j)
      rw [List.length_take] at this
      omega
    generalize ps[j] = pj at hx2 hpj htk
    have ld := CW.ld c Try.underlying24 (by simp) (by simp) pj.1
    rw [hpj.1] at ld
    repeat (first | (with_reducible refine Wp.st ?_; simp only [wS]) | with_reducible refine Wp.drawS (by decide +kernel) ?_ | simp (disch := (first | (simp only [List.length_set, hl]; omega) | omega | rfl)) only [walkA, walkB, bne_self_eq_false, beq_self_eq_true, Option.map_some, Option.map_none, reduceIte, decide_true, decide_false, Int.reduceLT, Int.reduceLE, Int.reduceMul, Int.reduceAdd, Int.reduceSub, e0, e6, e7, e8, hx1, hx2, faC1, lw, pw_np])
    refine Wp.cond_true (by first | ((simp (disch := (first | (simp only [List.length_set, hl]; omega) | omega | rfl)) only [sL, aEval_tmp]); done) | ((simp (disch := (first | (simp only [List.length_set, hl]; omega) | omega | rfl)) only [sL, aEval_tmp]); rfl)) ?_
    refine Wp.drawU [(3, 7)] (by kernel_rfl) ?_
    repeat (simp (disch := (first | (simp only [List.length_set, hl]; omega) | omega | rfl)) only [WD_none, WD_guard, WDG_tt, WDG_ff, WDG_tf, WDG_ft, gval_some, nthD_zero, nthD_succ, WD1_move, WD1_assign, WD1_call, WD1_load, WD1_convert, WD1_fieldAddr, WD1_field, WD1_indexAddr, WD1_extract, WD1_binOp, WD1_unOp, WD1_builtin, WD1_slice2, WD1_slice1, WD1_nilCheck, WD1_pick, DPick_bool, DNil_ptr, DH_some, WDraw_nil, withH_val, aEval_tmp, aEval_const, aPut_some, aPut_none, List.length_set, List.map_cons, List.map_nil, sl_eq, sl_ne, cond_true, cond_false, bin_add, bin_sub, bin_eql, bin_neq, bin_lss, bin_leq, bin_gtr, bin_geq, bne_self_eq_false, beq_self_eq_true, un_not, Bool.not_true, Bool.not_false, wrap_i64, e0, e6, e7, e8, faC1, lw, ld, WD1_buildSlice, bs64])
    have c1 := CW.alloc c [.int .u64 pj.2] 24
    have of1 : Off _ v' kw (.slice (some ⟨hh.next, 0, none⟩) 1 1) ([pj.2].map (Value.int .u64)) := WB.offRow (T := 24) c1 (by simp) rfl
    have lw1 := c1.lw
    refine (u64_am _ [pj.2] kw v' _ _ of1 c1.wr c.one (by rw [List.length_append, List.length_singleton]; omega)).mono ?_
    intro v hd q
    obtain ⟨hr, v2, c2⟩ := CW.done c1 q (all_append' c.one (flat_all' _ _ (fun _ _ => beTo_all _ _)))
    rw [hr]
    repeat (simp (disch := (first | (simp only [List.length_set, hl]; omega) | omega | rfl)) only [WD_none, WD_guard, WDG_tt, WDG_ff, WDG_tf, WDG_ft, gval_some, nthD_zero, nthD_succ, WD1_move, WD1_assign, WD1_call, WD1_load, WD1_convert, WD1_fieldAddr, WD1_field, WD1_indexAddr, WD1_extract, WD1_binOp, WD1_unOp, WD1_builtin, WD1_slice2, WD1_slice1, WD1_nilCheck, WD1_pick, DPick_bool, DNil_ptr, DH_some, WDraw_nil, withH_val, aEval_tmp, aEval_const, aPut_some, aPut_none, List.length_set, List.map_cons, List.map_nil, sl_eq, sl_ne, cond_true, cond_false, bin_add, bin_sub, bin_eql, bin_neq, bin_lss, bin_leq, bin_gtr, bin_geq, bne_self_eq_false, beq_self_eq_true, un_not, Bool.not_true, Bool.not_false, wrap_i64, e0, e6])
    refine ⟨?_, ?_⟩
    · simp only [okPair, List.reverse_cons, List.reverse_nil, List.nil_append, List.cons_append, List.getElem?_cons_zero, List.getElem?_cons_succ, List.mem_cons, List.not_mem_nil, or_false, forall_eq_or_imp, forall_eq, Nat.blt_eq, blt_true, blt_false, cond_true, cond_false, Bool.true_eq_false, Bool.false_eq_true, false_or]
      refine sameAt_load ?_ (veqB_ptr _)
      (simp (disch := (first | (simp only [List.length_set, hl]; omega) | omega | rfl)) only [sL, aEval_tmp])
      exact lw1
    repeat (first | (with_reducible refine Wp.st ?_; simp only [wS]) | with_reducible refine Wp.drawS (by decide +kernel) ?_ | simp (disch := (first | (simp only [List.length_set, hl]; omega) | omega | rfl)) only [walkA, walkB, bne_self_eq_false, beq_self_eq_true, Option.map_some, Option.map_none, reduceIte, decide_true, decide_false, Int.reduceLT, Int.reduceLE, Int.reduceMul, Int.reduceAdd, Int.reduceSub, e0, e6, e7, e8])
    refine ⟨m - 1, by omega, j + 1, v2, by omega, by simp [hl], by (simp (disch := (first | (simp only [List.length_set, hl]; omega) | omega | rfl)) only [sL, e0]), by (simp (disch := (first | (simp only [List.length_set, hl]; omega) | omega | rfl)) only [sL, e6]), by (simp (disch := (first | (simp only [List.length_set, hl]; omega) | omega | rfl)) only [sL, e7]), by (simp (disch := (first | (simp only [List.length_set, hl]; omega) | omega | rfl)) only [sL, Int.natCast_add]); rfl, ?_⟩
    rw [htk, ← List.append_assoc]
    simpa using CW.drop c2
  · refine Wp.cond_false (by (simp (disch := (first | (simp only [List.length_set, hl]; omega) | omega | rfl)) only [sL, aEval_tmp]); simpa using hlt) ?_
    repeat (first | (with_reducible refine Wp.st ?_; simp only [wS]) | with_reducible refine Wp.drawS (by decide +kernel) ?_ | simp (disch := (first | (simp only [List.length_set, hl]; omega) | omega | rfl)) only [walkA, walkB, bne_self_eq_false, beq_self_eq_true, Option.map_some, Option.map_none, reduceIte, decide_true, decide_false, Int.reduceLT, Int.reduceLE, Int.reduceMul, Int.reduceAdd, Int.reduceSub, e0, e6, e7, e8])
    simp only [aRes_none Try.results56]
    rw [List.take_of_length_le (by omega)] at c
    exact ⟨trivial, v', CW.drop (CW.swap c)⟩
end
end Go.Proofs.Ytanknjpcgceccaa

namespace Go.Proofs.Ytanknjpcgceccaa
open Go Go.AM
set_option linter.unusedSimpArgs false
set_option maxRecDepth 100000
attribute [local irreducible] WOps WV WH WSt WNil WPick WGd
section
variable (Z : Nat → Prop) (H0 h : Heap) (kc kw : Nat) (wv : Value) (bs : List Value) (bad : Bool) (L : List Blk) (kt : Nat) (cs : List Value) (T : TypeId)
theorem u32W1 (o : Nat) (n : Int) (c : CW Z H0 h kc kw wv bs bad ((kt, cs, T) :: L)) (hv : cs[o]? = some (.int .u32 n)) (hn0 : 0 ≤ n) (hn1 : n < 4294967296) (hlen : bs.length ≤ 700000000) :
    Cl Try.prog 55 [pt kc 0, .slice (some ⟨h.next, 0, none⟩) 1 1] (h.push (.cells [pt kt o] 123 false)) fun v h' => v = .tuple #[] ∧ ∃ v', CW Z H0 h' kc kw v' (bs ++ beTo n 4) bad ((kt, cs, T) :: L) :=
  (u32W_am Z H0 _ kc kw wv bs bad L kt cs T h.next 123 [(o, n)] (CW.alloc c _ _).swap (by simpa using ⟨hv, hn0, hn1⟩) (by simp) hlen).mono fun v h' q => ⟨q.1, by simpa using q.2⟩
theorem u64W1 (o : Nat) (n : Int) (c : CW Z H0 h kc kw wv bs bad ((kt, cs, T) :: L)) (hv : cs[o]? = some (.int .u64 n)) (hlen : bs.length ≤ 700000000) :
    Cl Try.prog 56 [pt kc 0, .slice (some ⟨h.next, 0, none⟩) 1 1] (h.push (.cells [pt kt o] 125 false)) fun v h' => v = .tuple #[] ∧ ∃ v', CW Z H0 h' kc kw v' (bs ++ beTo n 8) bad ((kt, cs, T) :: L) :=
  (u64W_am Z H0 _ kc kw wv bs bad L kt cs T h.next 125 [(o, n)] (CW.alloc c _ _).swap (by simpa using hv) (by simp) hlen).mono fun v h' q => ⟨q.1, by simpa using q.2⟩
theorem u32W2 (o p : Nat) (n m : Int) (c : CW Z H0 h kc kw wv bs bad ((kt, cs, T) :: L)) (hv : cs[o]? = some (.int .u32 n)) (hn0 : 0 ≤ n) (hn1 : n < 4294967296) (hv2 : cs[p]? = some (.int .u32 m)) (hm0 : 0 ≤ m) (hm1 : m < 4294967296) (hlen : bs.length ≤ 700000000) :
    Cl Try.prog 55 [pt kc 0, .slice (some ⟨h.next, 0, none⟩) 2 2] (h.push (.cells [pt kt o, pt kt p] 123 false)) fun v h' => v = .tuple #[] ∧ ∃ v', CW Z H0 h' kc kw v' (bs ++ (beTo n 4 ++ beTo m 4)) bad ((kt, cs, T) :: L) :=
  (u32W_am Z H0 _ kc kw wv bs bad L kt cs T h.next 123 [(o, n), (p, m)] (CW.alloc c _ _).swap (by simpa using ⟨⟨hv, hn0, hn1⟩, hv2, hm0, hm1⟩) (by simp) hlen).mono fun v h' q => ⟨q.1, by simpa using q.2⟩
theorem u64W2 (o p : Nat) (n m : Int) (c : CW Z H0 h kc kw wv bs bad ((kt, cs, T) :: L)) (hv : cs[o]? = some (.int .u64 n)) (hv2 : cs[p]? = some (.int .u64 m)) (hlen : bs.length ≤ 700000000) :
    Cl Try.prog 56 [pt kc 0, .slice (some ⟨h.next, 0, none⟩) 2 2] (h.push (.cells [pt kt o, pt kt p] 125 false)) fun v h' => v = .tuple #[] ∧ ∃ v', CW Z H0 h' kc kw v' (bs ++ (beTo n 8 ++ beTo m 8)) bad ((kt, cs, T) :: L) :=
  (u64W_am Z H0 _ kc kw wv bs bad L kt cs T h.next 125 [(o, n), (p, m)] (CW.alloc c _ _).swap (by simpa using ⟨hv, hv2⟩) (by simp) hlen).mono fun v h' q => ⟨q.1, by simpa using q.2⟩
theorem wrap32_le (x : Int) : 0 ≤ IntKind.u32.wrap x ∧ IntKind.u32.wrap x < 4294967296 := by
  constructor <;> simp [IntKind.wrap, IntKind.bits, IntKind.signed] <;> omega
set_option maxHeartbeats 1000000 in
theorem numW_am (o : Nat) (a b v0 : Int) (c : CW Z H0 h kc kw wv bs bad ((kt, cs, T) :: L)) (hv : cs[o]? = some (.int .i64 v0)) (hlen : bs.length ≤ 700000000) :
    Cl Try.prog 57 [pt kc 0, pt kt o, .int .i64 a, .int .i64 b] h fun v h' => v = .tuple #[] ∧ ∃ v', CW Z H0 h' kc kw v' (bs ++ beTo (IntKind.u32.wrap v0) 4) (bad || !(decide (a ≤ v0) && decide (v0 ≤ b))) ((kt, cs, T) :: L) := by
  refine Cl.enter Try.func57 rfl 58 Try.ntmps57 (by simp) ?_
  intro env hl ha
  have h0 : sl env 0 = pt kc 0 := ha 0 (by simp)
  have h1 : sl env 1 = pt kt o := ha 1 (by simp)
  have h2 : sl env 2 = .int .i64 a := ha 2 (by simp)
  have h3 : sl env 3 = .int .i64 b := ha 3 (by simp)
  clear ha
  have h1' := h1
  have h2' := h2
  have h3' := h3
  clear h1 h2 h3
  have lw := c.lw
  have ld := CW.ld c Try.underlying3 (by simp) (by simp) o
  rw [hv] at ld
  have w1 := wrap32_le v0
  have hcv := fun x hx => conv_int (h := hx) (k' := .i64) (n := x) Try.underlying3 Try.underlying23
  by_cases hf : a ≤ v0
  · have d1 : decide (v0 ≥ a) = true := decide_eq_true hf
    repeat (first | (with_reducible refine Wp.st ?_; simp only [wS]) | with_reducible refine Wp.drawS (by decide +kernel) ?_ | simp (disch := (first | (simp only [List.length_set, hl]; omega) | omega | rfl)) only [walkA, walkB, bne_self_eq_false, beq_self_eq_true, Option.map_some, Option.map_none, reduceIte, decide_true, decide_false, Int.reduceLT, Int.reduceLE, Int.reduceMul, Int.reduceAdd, Int.reduceSub, h0, h1', h2', h3', faC1, lw, pw_np])
    refine Wp.cond_true (by first | ((simp (disch := (first | (simp only [List.length_set, hl]; omega) | omega | rfl)) only [sL, aEval_tmp]); done) | ((simp (disch := (first | (simp only [List.length_set, hl]; omega) | omega | rfl)) only [sL, aEval_tmp]); rfl)) ?_
    repeat (first | (with_reducible refine Wp.st ?_; simp only [wS]) | with_reducible refine Wp.drawS (by decide +kernel) ?_ | simp (disch := (first | (simp only [List.length_set, hl]; omega) | omega | rfl)) only [walkA, walkB, bne_self_eq_false, beq_self_eq_true, Option.map_some, Option.map_none, reduceIte, decide_true, decide_false, Int.reduceLT, Int.reduceLE, Int.reduceMul, Int.reduceAdd, Int.reduceSub, h0, h1', h2', h3', ld, d1])
    refine (mustW_am (decide (v0 ≤ b)) c).mono ?_
    intro v h1 q
    rw [q.1]
    have c1 := q.2
    clear q
    have ld1 := CW.ld c1 Try.underlying3 (by simp) (by simp) o
    rw [hv] at ld1
    have al := alU32 (h := h1)
    obtain ⟨h3, p1, c3⟩ := CW.put (CW.alloc c1 [.int .u32 0] 23) iU32 rfl 0 (by simp) (v := .int .u32 (IntKind.u32.wrap v0)) rfl rfl
    generalize h1.push (.cells [.int .u32 0] 23 false) = h2 at al p1
    generalize h1.next = kn at al p1 c3
    repeat (first | (with_reducible refine Wp.st ?_; simp only [wS]) | with_reducible refine Wp.drawS (by decide +kernel) ?_ | simp (disch := (first | (simp only [List.length_set, hl]; omega) | omega | rfl)) only [walkA, walkB, bne_self_eq_false, beq_self_eq_true, Option.map_some, Option.map_none, reduceIte, decide_true, decide_false, Int.reduceLT, Int.reduceLE, Int.reduceMul, Int.reduceAdd, Int.reduceSub, h0, h1', h2', h3', ld1, hcv, al, p1, bp32])
    refine (u32W1 _ _ _ kc kw _ bs _ _ kn _ _ 0 (IntKind.u32.wrap v0) c3 rfl w1.1 w1.2 hlen).mono ?_
    intro v h4 q
    rw [q.1]
    obtain ⟨v', c4⟩ := q.2
    have lw4 := c4.lw
    repeat (first | (with_reducible refine Wp.st ?_; simp only [wS]) | with_reducible refine Wp.drawS (by decide +kernel) ?_ | simp (disch := (first | (simp only [List.length_set, hl]; omega) | omega | rfl)) only [walkA, walkB, bne_self_eq_false, beq_self_eq_true, Option.map_some, Option.map_none, reduceIte, decide_true, decide_false, Int.reduceLT, Int.reduceLE, Int.reduceMul, Int.reduceAdd, Int.reduceSub, h0, h1', h2', h3', faC1, lw4, pw_ep])
    refine Wp.cond_false (by first | ((simp (disch := (first | (simp only [List.length_set, hl]; omega) | omega | rfl)) only [sL, aEval_tmp]); done) | ((simp (disch := (first | (simp only [List.length_set, hl]; omega) | omega | rfl)) only [sL, aEval_tmp]); rfl)) ?_
    repeat (first | (with_reducible refine Wp.st ?_; simp only [wS]) | with_reducible refine Wp.drawS (by decide +kernel) ?_ | simp (disch := (first | (simp only [List.length_set, hl]; omega) | omega | rfl)) only [walkA, walkB, bne_self_eq_false, beq_self_eq_true, Option.map_some, Option.map_none, reduceIte, decide_true, decide_false, Int.reduceLT, Int.reduceLE, Int.reduceMul, Int.reduceAdd, Int.reduceSub, h0])
    simp only [aRes_none Try.results57]
    rw [Bool.true_and]
    exact ⟨trivial, v', CW.drop c4⟩
  · have d1 : decide (v0 ≥ a) = false := decide_eq_false hf
    repeat (first | (with_reducible refine Wp.st ?_; simp only [wS]) | with_reducible refine Wp.drawS (by decide +kernel) ?_ | simp (disch := (first | (simp only [List.length_set, hl]; omega) | omega | rfl)) only [walkA, walkB, bne_self_eq_false, beq_self_eq_true, Option.map_some, Option.map_none, reduceIte, decide_true, decide_false, Int.reduceLT, Int.reduceLE, Int.reduceMul, Int.reduceAdd, Int.reduceSub, h0, h1', h2', h3', faC1, lw, pw_np])
    refine Wp.cond_true (by first | ((simp (disch := (first | (simp only [List.length_set, hl]; omega) | omega | rfl)) only [sL, aEval_tmp]); done) | ((simp (disch := (first | (simp only [List.length_set, hl]; omega) | omega | rfl)) only [sL, aEval_tmp]); rfl)) ?_
    repeat (first | (with_reducible refine Wp.st ?_; simp only [wS]) | with_reducible refine Wp.drawS (by decide +kernel) ?_ | simp (disch := (first | (simp only [List.length_set, hl]; omega) | omega | rfl)) only [walkA, walkB, bne_self_eq_false, beq_self_eq_true, Option.map_some, Option.map_none, reduceIte, decide_true, decide_false, Int.reduceLT, Int.reduceLE, Int.reduceMul, Int.reduceAdd, Int.reduceSub, h0, h1', h2', h3', ld, d1])
    refine (mustW_am false c).mono ?_
    intro v h1 q
    rw [q.1]
    have c1 := q.2
    clear q
    have ld1 := CW.ld c1 Try.underlying3 (by simp) (by simp) o
    rw [hv] at ld1
    have al := alU32 (h := h1)
    obtain ⟨h3, p1, c3⟩ := CW.put (CW.alloc c1 [.int .u32 0] 23) iU32 rfl 0 (by simp) (v := .int .u32 (IntKind.u32.wrap v0)) rfl rfl
    generalize h1.push (.cells [.int .u32 0] 23 false) = h2 at al p1
    generalize h1.next = kn at al p1 c3
    repeat (first | (with_reducible refine Wp.st ?_; simp only [wS]) | with_reducible refine Wp.drawS (by decide +kernel) ?_ | simp (disch := (first | (simp only [List.length_set, hl]; omega) | omega | rfl)) only [walkA, walkB, bne_self_eq_false, beq_self_eq_true, Option.map_some, Option.map_none, reduceIte, decide_true, decide_false, Int.reduceLT, Int.reduceLE, Int.reduceMul, Int.reduceAdd, Int.reduceSub, h0, h1', h2', h3', ld1, hcv, al, p1, bp32])
    refine (u32W1 _ _ _ kc kw _ bs _ _ kn _ _ 0 (IntKind.u32.wrap v0) c3 rfl w1.1 w1.2 hlen).mono ?_
    intro v h4 q
    rw [q.1]
    obtain ⟨v', c4⟩ := q.2
    have lw4 := c4.lw
    repeat (first | (with_reducible refine Wp.st ?_; simp only [wS]) | with_reducible refine Wp.drawS (by decide +kernel) ?_ | simp (disch := (first | (simp only [List.length_set, hl]; omega) | omega | rfl)) only [walkA, walkB, bne_self_eq_false, beq_self_eq_true, Option.map_some, Option.map_none, reduceIte, decide_true, decide_false, Int.reduceLT, Int.reduceLE, Int.reduceMul, Int.reduceAdd, Int.reduceSub, h0, h1', h2', h3', faC1, lw4, pw_ep])
    refine Wp.cond_false (by first | ((simp (disch := (first | (simp only [List.length_set, hl]; omega) | omega | rfl)) only [sL, aEval_tmp]); done) | ((simp (disch := (first | (simp only [List.length_set, hl]; omega) | omega | rfl)) only [sL, aEval_tmp]); rfl)) ?_
    repeat (first | (with_reducible refine Wp.st ?_; simp only [wS]) | with_reducible refine Wp.drawS (by decide +kernel) ?_ | simp (disch := (first | (simp only [List.length_set, hl]; omega) | omega | rfl)) only [walkA, walkB, bne_self_eq_false, beq_self_eq_true, Option.map_some, Option.map_none, reduceIte, decide_true, decide_false, Int.reduceLT, Int.reduceLE, Int.reduceMul, Int.reduceAdd, Int.reduceSub, h0])
    simp only [aRes_none Try.results57]
    rw [Bool.false_and]
    exact ⟨trivial, v', CW.drop c4⟩
theorem bsRow {h : Heap} {a : Option Addr} {n c : Nat} : aBuildSlice Try.prog h 165 1 [(0, .slice a n c)] = some (.slice (some ⟨h.next, 0, none⟩) 1 1, h.push (.cells [.slice a n c] 22 false)) := by kernel_rfl
set_option maxHeartbeats 1000000 in
theorem rowW_am (o : Nat) (most : Int) (dv : Value) (xs : List Value) (c : CW Z H0 h kc kw wv bs bad ((kt, cs, T) :: L)) (hv : cs[o]? = some dv) (hsl : ∃ a n c, dv = .slice a n c)
    (hOff : ∀ h' v' bs' b' L', CW Z H0 h' kc kw v' bs' b' (L' ++ (kt, cs, T) :: L) → Off h' v' kw dv xs) (hx1 : xs.all Value.oneCell' = true) (hxl : xs.length ≤ 40000) (hlen : bs.length ≤ 900000) :
    Cl Try.prog 58 [pt kc 0, pt kt o, .int .i64 most] h fun v h' => v = .tuple #[] ∧ ∃ v', CW Z H0 h' kc kw v' (bs ++ bytesB (dv, xs)) (bad || !(decide ((xs.length : Int) ≤ most))) ((kt, cs, T) :: L) := by
  refine Cl.enter Try.func58 rfl 36 Try.ntmps58 (by simp) ?_
  intro env hl ha
  have h0 : sl env 0 = pt kc 0 := ha 0 (by simp)
  have h1 : sl env 1 = pt kt o := ha 1 (by simp)
  have h2 : sl env 2 = .int .i64 most := ha 2 (by simp)
  clear ha
  have lw := c.lw
  have ld := CW.ld c Try.underlying22 (by simp) (by simp) o
  rw [hv] at ld
  have hl2 := len_any (hOff _ _ _ _ [] c).1 Try.underlying22
  repeat (first | (with_reducible refine Wp.st ?_; simp only [wS]) | with_reducible refine Wp.drawS (by decide +kernel) ?_ | simp (disch := (first | (simp only [List.length_set, hl]; omega) | omega | rfl)) only [walkA, walkB, bne_self_eq_false, beq_self_eq_true, Option.map_some, Option.map_none, reduceIte, decide_true, decide_false, Int.reduceLT, Int.reduceLE, Int.reduceMul, Int.reduceAdd, Int.reduceSub, h0, h1, h2, faC1, lw, pw_ep])
  refine Wp.cond_false (by first | ((simp (disch := (first | (simp only [List.length_set, hl]; omega) | omega | rfl)) only [sL, aEval_tmp]); done) | ((simp (disch := (first | (simp only [List.length_set, hl]; omega) | omega | rfl)) only [sL, aEval_tmp]); rfl)) ?_
  repeat (first | (with_reducible refine Wp.st ?_; simp only [wS]) | with_reducible refine Wp.drawS (by decide +kernel) ?_ | simp (disch := (first | (simp only [List.length_set, hl]; omega) | omega | rfl)) only [walkA, walkB, bne_self_eq_false, beq_self_eq_true, Option.map_some, Option.map_none, reduceIte, decide_true, decide_false, Int.reduceLT, Int.reduceLE, Int.reduceMul, Int.reduceAdd, Int.reduceSub, h0, h1, h2, ld, hl2])
  refine (mustW_am (decide ((xs.length : Int) ≤ most)) c).mono ?_
  intro v h1' q
  rw [q.1]
  have c1 := q.2
  clear q
  have lw := c1.lw
  have ld := CW.ld c1 Try.underlying22 (by simp) (by simp) o
  rw [hv] at ld
  obtain ⟨da, dn, dc, hdv⟩ := hsl
  have bsr := bsRow (h := h1') (a := da) (n := dn) (c := dc)
  rw [← hdv] at bsr
  repeat (first | (with_reducible refine Wp.st ?_; simp only [wS]) | with_reducible refine Wp.drawS (by decide +kernel) ?_ | simp (disch := (first | (simp only [List.length_set, hl]; omega) | omega | rfl)) only [walkA, walkB, bne_self_eq_false, beq_self_eq_true, Option.map_some, Option.map_none, reduceIte, decide_true, decide_false, Int.reduceLT, Int.reduceLE, Int.reduceMul, Int.reduceAdd, Int.reduceSub, h0, h1, h2])
  refine Wp.drawU [(3, 7)] (by kernel_rfl) ?_
  repeat (simp (disch := (first | (simp only [List.length_set, hl]; omega) | omega | rfl)) only [WD_none, WD_guard, WDG_tt, WDG_ff, WDG_tf, WDG_ft, gval_some, nthD_zero, nthD_succ, WD1_move, WD1_assign, WD1_call, WD1_load, WD1_convert, WD1_fieldAddr, WD1_field, WD1_indexAddr, WD1_extract, WD1_binOp, WD1_unOp, WD1_builtin, WD1_slice2, WD1_slice1, WD1_nilCheck, WD1_pick, DPick_bool, DNil_ptr, DH_some, WDraw_nil, withH_val, aEval_tmp, aEval_const, aPut_some, aPut_none, List.length_set, List.map_cons, List.map_nil, sl_eq, sl_ne, cond_true, cond_false, bin_add, bin_sub, bin_eql, bin_neq, bin_lss, bin_leq, bin_gtr, bin_geq, bne_self_eq_false, beq_self_eq_true, un_not, Bool.not_true, Bool.not_false, wrap_i64, h0, h1, faC1, lw, ld, WD1_buildSlice, bsr])
  have c2 := CW.alloc c1 [dv] 22
  have of1 : Off _ wv kw (.slice (some ⟨h1'.next, 0, none⟩) 1 1) [dv] := WB.offRow (T := 22) c2 (by simp) rfl
  have of2 := hOff _ _ _ _ [(h1'.next, [dv], 22)] c2
  have lw1 := c2.lw
  refine (bytes_am _ [(dv, xs)] kw wv bs _ ⟨of1, by simp, fun p hp => by obtain rfl := List.mem_singleton.1 hp; exact ⟨of2, hx1, hxl, da, dn, dc, hdv⟩⟩ c2.wr c.one (by omega)).mono ?_
  intro v hd q
  obtain ⟨hr, v', c3⟩ := CW.done c2 q (all_append' c.one (by simpa [bytesB] using all_append' (beTo_all _ 4) (all_append' hx1 (padB_all _))))
  rw [hr]
  repeat (simp (disch := (first | (simp only [List.length_set, hl]; omega) | omega | rfl)) only [WD_none, WD_guard, WDG_tt, WDG_ff, WDG_tf, WDG_ft, gval_some, nthD_zero, nthD_succ, WD1_move, WD1_assign, WD1_call, WD1_load, WD1_convert, WD1_fieldAddr, WD1_field, WD1_indexAddr, WD1_extract, WD1_binOp, WD1_unOp, WD1_builtin, WD1_slice2, WD1_slice1, WD1_nilCheck, WD1_pick, DPick_bool, DNil_ptr, DH_some, WDraw_nil, withH_val, aEval_tmp, aEval_const, aPut_some, aPut_none, List.length_set, List.map_cons, List.map_nil, sl_eq, sl_ne, cond_true, cond_false, bin_add, bin_sub, bin_eql, bin_neq, bin_lss, bin_leq, bin_gtr, bin_geq, bne_self_eq_false, beq_self_eq_true, un_not, Bool.not_true, Bool.not_false, wrap_i64, h0, h1])
  refine ⟨?_, ?_⟩
  · simp only [okPair, List.reverse_cons, List.reverse_nil, List.nil_append, List.cons_append, List.getElem?_cons_zero, List.getElem?_cons_succ, List.mem_cons, List.not_mem_nil, or_false, forall_eq_or_imp, forall_eq, Nat.blt_eq, blt_true, blt_false, cond_true, cond_false, Bool.true_eq_false, Bool.false_eq_true, false_or]
    refine sameAt_load ?_ (veqB_ptr _)
    (simp (disch := (first | (simp only [List.length_set, hl]; omega) | omega | rfl)) only [sL, aEval_tmp])
    exact lw1
  repeat (first | (with_reducible refine Wp.st ?_; simp only [wS]) | with_reducible refine Wp.drawS (by decide +kernel) ?_ | simp (disch := (first | (simp only [List.length_set, hl]; omega) | omega | rfl)) only [walkA, walkB, bne_self_eq_false, beq_self_eq_true, Option.map_some, Option.map_none, reduceIte, decide_true, decide_false, Int.reduceLT, Int.reduceLE, Int.reduceMul, Int.reduceAdd, Int.reduceSub, h0])
  simp only [aRes_none Try.results58]
  exact ⟨trivial, v', by simpa using CW.drop c3⟩
end
end Go.Proofs.Ytanknjpcgceccaa

namespace Go.Proofs.Ytanknjpcgceccaa
open Go Go.AM
set_option linter.unusedSimpArgs false
set_option maxRecDepth 100000
attribute [local irreducible] WOps WV WH WSt WNil WPick WGd
def strB (s : ByteArray) : List Value := s.data.toList.map fun b => .int .u8 b.toNat
theorem strB_len (s : ByteArray) : (strB s).length = s.size := by unfold strB; rw [List.length_map, Array.length_toList]; rfl
theorem strB_one (s : ByteArray) : (strB s).all Value.oneCell' = true := List.all_eq_true.2 fun x hx => by
  obtain ⟨b, _, rfl⟩ := List.mem_map.1 hx
  rfl
section
variable (Z : Nat → Prop) (H0 h : Heap) (kc kw : Nat) (wv : Value) (bs : List Value) (bad : Bool) (L : List Blk) (kt : Nat) (cs : List Value) (T : TypeId)
set_option maxHeartbeats 1000000 in
theorem textW_am (o : Nat) (most : Int) (s0 : ByteArray) (c : CW Z H0 h kc kw wv bs bad ((kt, cs, T) :: L)) (hv : cs[o]? = some (.string s0)) (hs0 : s0.size ≤ 40000) (hlen : bs.length ≤ 900000)
    (hcv : ∀ (h : Heap) (v : Value), Row h v (strB s0) → aConv Try.prog h 22 9 v = some (.string s0, h)) :
    Cl Try.prog 51 [pt kc 0, pt kt o, .int .i64 most] h fun v h' => v = .tuple #[] ∧ ∃ v', CW Z H0 h' kc kw v' (bs ++ (beTo s0.size 4 ++ (strB s0 ++ padB s0.size))) (bad || !(decide ((s0.size : Int) ≤ most))) ((kt, cs, T) :: L) := by
  have ho : o < cs.length := (List.getElem?_eq_some_iff.1 hv).1
  refine Cl.enter Try.func51 rfl 18 Try.ntmps51 (by simp) ?_
  intro env hl ha
  have h0 : sl env 0 = pt kc 0 := ha 0 (by simp)
  have h1 : sl env 1 = pt kt o := ha 1 (by simp)
  have h2 : sl env 2 = .int .i64 most := ha 2 (by simp)
  clear ha
  have ld := CW.ld c Try.underlying9 (by simp) (by simp) o
  rw [hv] at ld
  have cv : aConv Try.prog h 9 22 (.string s0) = some (.slice (some ⟨h.next, 0, none⟩) s0.size opnCap, h.push (.cells (strB s0) 5 false)) := cvStr (h := h) (s := s0) (by omega)
  have c0 := CW.alloc c (strB s0) 5
  generalize h.push (.cells (strB s0) 5 false) = hb at cv c0
  generalize h.next = kb at cv c0
  have al := alRow (h := hb)
  have c1 := CW.alloc c0 [.slice none 0 0] 22
  generalize hb.push (.cells [.slice none 0 0] 22 false) = hc at al c1
  generalize hb.next = kv at al c1
  obtain ⟨h3, p1, c3⟩ := CW.put c1 iRow rfl 0 (by simp) (v := .slice (some ⟨kb, 0, none⟩) s0.size opnCap) rfl rfl
  repeat (first | (with_reducible refine Wp.st ?_; simp only [wS]) | with_reducible refine Wp.drawS (by decide +kernel) ?_ | simp (disch := (first | (simp only [List.length_set, hl]; omega) | omega | rfl)) only [walkA, walkB, bne_self_eq_false, beq_self_eq_true, Option.map_some, Option.map_none, reduceIte, decide_true, decide_false, Int.reduceLT, Int.reduceLE, Int.reduceMul, Int.reduceAdd, Int.reduceSub, h0, h1, h2, ld, cv, al, p1])
  have off : ∀ h' v' bs' b' L', CW Z H0 h' kc kw v' bs' b' (L' ++ (kv, [Value.slice none 0 0].set 0 (.slice (some ⟨kb, 0, none⟩) s0.size opnCap), 22) :: (kb, strB s0, 5) :: (kt, cs, T) :: L) → Off h' v' kw (.slice (some ⟨kb, 0, none⟩) s0.size opnCap) (strB s0) := fun h' v' bs' b' L' c => by
    have hm : (kb, strB s0, 5) ∈ ((kc, [.pointer none, pt kw 0, .bool b'], TC) :: (L' ++ (kv, [Value.slice none 0 0].set 0 (.slice (some ⟨kb, 0, none⟩) s0.size opnCap), 22) :: (kb, strB s0, 5) :: (kt, cs, T) :: L)) := by simp
    have hg := c.st.get _ (List.mem_cons_of_mem _ hm)
    refine ⟨by have := Row.whole (cap := opnCap) hg; rw [strB_len] at this; exact this, fun a m d e _ => ?_⟩
    injection e with e1
    injection e1 with e1
    subst e1
    exact ⟨fun hh => hh.elim (fun e => c.st.ne _ hm e) (fun hb => (c.off _ hb).2.2 _ hm rfl), Heap.get_lt hg⟩
  refine (rowW_am Z H0 _ kc kw _ bs _ _ kv _ _ 0 most _ (strB s0) c3 rfl ⟨_, _, _, rfl⟩ off (strB_one s0) (by rw [strB_len]; exact hs0) hlen).mono ?_
  intro v h4 q
  rw [q.1]
  obtain ⟨v', c4⟩ := q.2
  clear q
  have ld2 := CW.ld c4 Try.underlying22 (by simp) (by simp) 0
  rw [List.getElem?_set_self (by simp)] at ld2
  have cv2 := hcv h4 _ (off _ _ _ _ [] c4).1
  obtain ⟨h5, p5, c5⟩ := CW.put (CW.drop (CW.drop c4)) iStr rfl o ho (v := .string s0) rfl rfl
  have e5 : cs.set o (.string s0) = cs := by
    obtain ⟨hl, he⟩ := List.getElem?_eq_some_iff.1 hv
    rw [← he]; exact List.set_getElem_self hl
  rw [e5] at c5
  repeat (first | (with_reducible refine Wp.st ?_; simp only [wS]) | with_reducible refine Wp.drawS (by decide +kernel) ?_ | simp (disch := (first | (simp only [List.length_set, hl]; omega) | omega | rfl)) only [walkA, walkB, bne_self_eq_false, beq_self_eq_true, Option.map_some, Option.map_none, reduceIte, decide_true, decide_false, Int.reduceLT, Int.reduceLE, Int.reduceMul, Int.reduceAdd, Int.reduceSub, h0, h1, h2, ld2, cv2, p5])
  simp only [aRes_none Try.results51]
  simp only [bytesB, strB_len] at c5
  exact ⟨trivial, v', c5⟩
end
end Go.Proofs.Ytanknjpcgceccaa

namespace Go.Proofs.Ytanknjpcgceccaa
open Go Go.AM
set_option linter.unusedSimpArgs false
set_option maxRecDepth 100000
attribute [local irreducible] WOps WV WH WSt WNil WPick WGd
section
variable (Z : Nat → Prop) (H0 h : Heap) (kc kw : Nat) (wv : Value) (bs : List Value) (bad : Bool) (L : List Blk) (kt : Nat) (cs : List Value) (T : TypeId)
theorem timeW_am (o : Nat) (n m : Int) (c : CW Z H0 h kc kw wv bs bad ((kt, cs, T) :: L)) (hv : cs[o]? = some (.int .u32 n)) (hn0 : 0 ≤ n) (hn1 : n < 4294967296) (hv2 : cs[o + 1]? = some (.int .u32 m)) (hm0 : 0 ≤ m) (hm1 : m < 4294967296) (hlen : bs.length ≤ 700000000) :
    Cl Try.prog 54 [pt kc 0, pt kt o] h fun v h' => v = .tuple #[] ∧ ∃ v', CW Z H0 h' kc kw v' (bs ++ (beTo n 4 ++ beTo m 4)) bad ((kt, cs, T) :: L) := by
  refine Cl.enter Try.func54 rfl 13 Try.ntmps54 (by simp) ?_
  intro env hl ha
  have h0 : sl env 0 = pt kc 0 := ha 0 (by simp)
  have h1 : sl env 1 = pt kt o := ha 1 (by simp)
  clear ha
  repeat (first | (with_reducible refine Wp.st ?_; simp only [wS]) | with_reducible refine Wp.drawS (by decide +kernel) ?_ | simp (disch := (first | (simp only [List.length_set, hl]; omega) | omega | rfl)) only [walkA, walkB, bne_self_eq_false, beq_self_eq_true, Option.map_some, Option.map_none, reduceIte, decide_true, decide_false, Int.reduceLT, Int.reduceLE, Int.reduceMul, Int.reduceAdd, Int.reduceSub, h0, h1, faT0, faT1, bp32'])
  refine (u32W2 Z H0 _ kc kw wv bs bad L kt cs T o (o + 1) n m c hv hn0 hn1 hv2 hm0 hm1 hlen).mono ?_
  intro v hh q
  rw [q.1]
  have c := q.2
  clear q
  repeat (first | (with_reducible refine Wp.st ?_; simp only [wS]) | with_reducible refine Wp.drawS (by decide +kernel) ?_ | simp (disch := (first | (simp only [List.length_set, hl]; omega) | omega | rfl)) only [walkA, walkB, bne_self_eq_false, beq_self_eq_true, Option.map_some, Option.map_none, reduceIte, decide_true, decide_false, Int.reduceLT, Int.reduceLE, Int.reduceMul, Int.reduceAdd, Int.reduceSub, h0, h1])
  simp only [aRes_none Try.results54]
  exact ⟨trivial, c⟩
def wHowB (hw a b : Int) : List Value := beTo (IntKind.u32.wrap hw) 4 ++ (if hw = 2 then beTo a 4 ++ beTo b 4 else [])
def wHowC (hw : Int) (t : Nat) (cs : List Value) : List Value := if hw = 2 then cs else (cs.set t (.int .u32 0)).set (t + 1) (.int .u32 0)
theorem CW.two {t : Nat} {a b : Value} (c : CW Z H0 h kc kw wv bs bad ((kt, cs, T) :: L)) (ho : t + 1 < cs.length) (h1 : a.oneCell' = true) (h2 : b.oneCell' = true) :
    ∃ h2, aStore Try.prog h 26 (pt kt t) (.agg #[a, b]) = some h2 ∧ CW Z H0 h2 kc kw wv bs bad ((kt, (cs.set t a).set (t + 1) b, T) :: L) := by
  have c' := WB.perm c (.swap _ _ _)
  have q := St_two c'.st.swap ho h1 h2
  exact ⟨_, q.1, WB.perm (c'.upd (Same.set1 h kt _) (Heap.get_set_eq c'.st.swap.hd)) (.swap _ _ _)⟩
theorem howW_am (o t : Nat) (hw a b : Int) (c : CW Z H0 h kc kw wv bs bad ((kt, cs, T) :: L)) (hv : cs[o]? = some (.int .i64 hw)) (ha : cs[t]? = some (.int .u32 a)) (ha0 : 0 ≤ a) (ha1 : a < 4294967296) (hb : cs[t + 1]? = some (.int .u32 b)) (hb0 : 0 ≤ b) (hb1 : b < 4294967296) (hlen : bs.length ≤ 600000000) :
    Cl Try.prog 74 [pt kc 0, pt kt o, pt kt t] h fun v h' => v = .tuple #[] ∧ ∃ v', CW Z H0 h' kc kw v' (bs ++ wHowB hw a b) (bad || !(decide (0 ≤ hw) && decide (hw ≤ 2))) ((kt, wHowC hw t cs, T) :: L) := by
  have ht : t + 1 < cs.length := (List.getElem?_eq_some_iff.1 hb).1
  refine Cl.enter Try.func74 rfl 19 Try.ntmps74 (by simp) ?_
  intro env hl ha
  have h0 : sl env 0 = pt kc 0 := ha 0 (by simp)
  have h1 : sl env 1 = pt kt o := ha 1 (by simp)
  have h2 : sl env 2 = pt kt t := ha 2 (by simp)
  clear ha
  repeat (first | (with_reducible refine Wp.st ?_; simp only [wS]) | with_reducible refine Wp.drawS (by decide +kernel) ?_ | simp (disch := (first | (simp only [List.length_set, hl]; omega) | omega | rfl)) only [walkA, walkB, bne_self_eq_false, beq_self_eq_true, Option.map_some, Option.map_none, reduceIte, decide_true, decide_false, Int.reduceLT, Int.reduceLE, Int.reduceMul, Int.reduceAdd, Int.reduceSub, h0, h1, h2])
  refine (numW_am Z H0 _ kc kw wv bs bad L kt cs T o 0 2 hw c hv (by omega)).mono ?_
  intro v h3 q
  rw [q.1]
  obtain ⟨v1, c1⟩ := q.2
  clear q
  have ld := CW.ld c1 Try.underlying3 (by simp) (by simp) o
  rw [hv] at ld
  by_cases h2' : hw = 2
  · have d : (hw == 2) = true := by simpa using h2'
    have e1 : wHowB hw a b = beTo (IntKind.u32.wrap hw) 4 ++ (beTo a 4 ++ beTo b 4) := by unfold wHowB; rw [if_pos h2']
    have e2 : wHowC hw t cs = cs := by unfold wHowC; rw [if_pos h2']
    rw [e1, e2, ← List.append_assoc]
    repeat (first | (with_reducible refine Wp.st ?_; simp only [wS]) | with_reducible refine Wp.drawS (by decide +kernel) ?_ | simp (disch := (first | (simp only [List.length_set, hl]; omega) | omega | rfl)) only [walkA, walkB, bne_self_eq_false, beq_self_eq_true, Option.map_some, Option.map_none, reduceIte, decide_true, decide_false, Int.reduceLT, Int.reduceLE, Int.reduceMul, Int.reduceAdd, Int.reduceSub, h0, h1, h2, ld, d])
    refine Wp.cond_true (by first | ((simp (disch := (first | (simp only [List.length_set, hl]; omega) | omega | rfl)) only [sL, aEval_tmp]); done) | ((simp (disch := (first | (simp only [List.length_set, hl]; omega) | omega | rfl)) only [sL, aEval_tmp]); rfl)) ?_
    repeat (first | (with_reducible refine Wp.st ?_; simp only [wS]) | with_reducible refine Wp.drawS (by decide +kernel) ?_ | simp (disch := (first | (simp only [List.length_set, hl]; omega) | omega | rfl)) only [walkA, walkB, bne_self_eq_false, beq_self_eq_true, Option.map_some, Option.map_none, reduceIte, decide_true, decide_false, Int.reduceLT, Int.reduceLE, Int.reduceMul, Int.reduceAdd, Int.reduceSub, h0, h1, h2])
    refine (timeW_am Z H0 _ kc kw v1 _ _ L kt cs T t a b c1 ha ha0 ha1 hb hb0 hb1 (by rw [List.length_append, beTo_length]; omega)).mono ?_
    intro v h4 q
    rw [q.1]
    have c2 := q.2
    clear q
    repeat (first | (with_reducible refine Wp.st ?_; simp only [wS]) | with_reducible refine Wp.drawS (by decide +kernel) ?_ | simp (disch := (first | (simp only [List.length_set, hl]; omega) | omega | rfl)) only [walkA, walkB, bne_self_eq_false, beq_self_eq_true, Option.map_some, Option.map_none, reduceIte, decide_true, decide_false, Int.reduceLT, Int.reduceLE, Int.reduceMul, Int.reduceAdd, Int.reduceSub, h0])
    simp only [aRes_none Try.results74]
    exact ⟨trivial, c2⟩
  · have d : (hw == 2) = false := by simpa using h2'
    have e1 : wHowB hw a b = beTo (IntKind.u32.wrap hw) 4 := by unfold wHowB; rw [if_neg h2', List.append_nil]
    have e2 : wHowC hw t cs = (cs.set t (.int .u32 0)).set (t + 1) (.int .u32 0) := by unfold wHowC; rw [if_neg h2']
    rw [e1, e2]
    obtain ⟨h4, p1, c2⟩ := CW.two _ _ _ _ _ _ _ _ _ _ _ _ c1 ht (a := .int .u32 0) (b := .int .u32 0) rfl rfl
    repeat (first | (with_reducible refine Wp.st ?_; simp only [wS]) | with_reducible refine Wp.drawS (by decide +kernel) ?_ | simp (disch := (first | (simp only [List.length_set, hl]; omega) | omega | rfl)) only [walkA, walkB, bne_self_eq_false, beq_self_eq_true, Option.map_some, Option.map_none, reduceIte, decide_true, decide_false, Int.reduceLT, Int.reduceLE, Int.reduceMul, Int.reduceAdd, Int.reduceSub, h0, h1, h2, ld, d])
    refine Wp.cond_false (by first | ((simp (disch := (first | (simp only [List.length_set, hl]; omega) | omega | rfl)) only [sL, aEval_tmp]); done) | ((simp (disch := (first | (simp only [List.length_set, hl]; omega) | omega | rfl)) only [sL, aEval_tmp]); rfl)) ?_
    repeat (first | (with_reducible refine Wp.st ?_; simp only [wS]) | with_reducible refine Wp.drawS (by decide +kernel) ?_ | simp (disch := (first | (simp only [List.length_set, hl]; omega) | omega | rfl)) only [walkA, walkB, bne_self_eq_false, beq_self_eq_true, Option.map_some, Option.map_none, reduceIte, decide_true, decide_false, Int.reduceLT, Int.reduceLE, Int.reduceMul, Int.reduceAdd, Int.reduceSub, h0, h1, h2, bTime, p1])
    simp only [aRes_none Try.results74]
    exact ⟨trivial, v1, c2⟩
end
end Go.Proofs.Ytanknjpcgceccaa

namespace Go.Proofs.Ytanknjpcgceccaa
open Go Go.AM
set_option linter.unusedSimpArgs false
set_option maxRecDepth 100000
attribute [local irreducible] WOps WV WH WSt WNil WPick WGd
structure SA where
  hm : Bool
  hu : Bool
  hg : Bool
  hs : Bool
  mode : Int
  uid : Int
  gid : Int
  size : Int
  ah : Int
  mh : Int
  a1 : Int
  a2 : Int
  m1 : Int
  m2 : Int
def SA.cells (s : SA) : List Value := [.bool s.hm, .bool s.hu, .bool s.hg, .bool s.hs, .int .i64 s.mode, .int .u32 s.uid, .int .u32 s.gid, .int .u64 s.size, .int .i64 s.ah, .int .i64 s.mh, .int .u32 s.a1, .int .u32 s.a2, .int .u32 s.m1, .int .u32 s.m2]
def u32r (x : Int) : Prop := 0 ≤ x ∧ x < 4294967296
structure SA.OK (s : SA) : Prop where
  uid : u32r s.uid
  gid : u32r s.gid
  a1 : u32r s.a1
  a2 : u32r s.a2
  m1 : u32r s.m1
  m2 : u32r s.m2
def wTr (b : Bool) : List Value := beTo (if b = true then 1 else 0) 4
def wOpt (b : Bool) (l : List Value) : List Value := wTr b ++ (if b = true then l else [])
def badIn (a b v : Int) : Bool := !(decide (a ≤ v) && decide (v ≤ b))
def wSetB (s : SA) : List Value := wOpt s.hm (beTo (IntKind.u32.wrap s.mode) 4) ++ wOpt s.hu (beTo s.uid 4) ++ wOpt s.hg (beTo s.gid 4) ++ wOpt s.hs (beTo s.size 8) ++ wHowB s.ah s.a1 s.a2 ++ wHowB s.mh s.m1 s.m2
def wSetBad (s : SA) : Bool := (s.hm && badIn 0 4294967295 s.mode) || badIn 0 2 s.ah || badIn 0 2 s.mh
def wSetC (s : SA) (o : Nat) (cs : List Value) : List Value := wHowC s.mh (o + 12) (wHowC s.ah (o + 10) cs)
theorem wTr_len (b : Bool) : (wTr b).length = 4 := beTo_length _ _
theorem wOpt_len (b : Bool) {l : List Value} (h : l.length ≤ 8) : (wOpt b l).length ≤ 12 := by
  unfold wOpt; rw [List.length_append, wTr_len]; split
  · omega
  · simp
theorem wHowB_len (a b c : Int) : (wHowB a b c).length ≤ 12 := by
  unfold wHowB; rw [List.length_append, beTo_length]; split <;> simp [beTo_length]
theorem wHowC_get {a : Int} {t p : Nat} {cs : List Value} (h1 : t ≠ p) (h2 : t + 1 ≠ p) : (wHowC a t cs)[p]? = cs[p]? := by
  unfold wHowC; split
  · rfl
  · rw [List.getElem?_set_ne h2, List.getElem?_set_ne h1]
def WQS (kc kt o : Nat) (A : Heap → Prop) : AX → List Value → Heap → Prop := fun ax e h' => ax = .normal ∧ e.length = 63 ∧ sl e 0 = pt kc 0 ∧ sl e 1 = pt kt o ∧ A h'
section
variable (Z : Nat → Prop) (H0 h : Heap) (kc kw : Nat) (wv : Value) (bs : List Value) (bad : Bool) (L : List Blk) (kt : Nat) (cs : List Value) (T : TypeId)
set_option maxHeartbeats 4000000 in
theorem setW_am (o : Nat) (s : SA) (hs : s.OK) (c : CW Z H0 h kc kw wv bs bad ((kt, cs, T) :: L)) (hv : ∀ i, i < 14 → cs[o + i]? = s.cells[i]?) (hlen : bs.length ≤ 500000000) :
    Cl Try.prog 52 [pt kc 0, pt kt o] h fun v h' => v = .tuple #[] ∧ ∃ v', CW Z H0 h' kc kw v' (bs ++ wSetB s) (bad || wSetBad s) ((kt, wSetC s o cs, T) :: L) := by
  refine Cl.enter Try.func52 rfl 63 Try.ntmps52 (by simp) ?_
  intro env hl ha
  have h0 : sl env 0 = pt kc 0 := ha 0 (by simp)
  have h1 : sl env 1 = pt kt o := ha 1 (by simp)
  clear ha
  obtain ⟨hm, hu, hg, hz, mode, uid, gid, size, ah, mh, a1, a2, m1, m2⟩ := s
  obtain ⟨⟨u1, u2⟩, ⟨g1, g2⟩, ⟨x1, x2⟩, ⟨x3, x4⟩, ⟨y1, y2⟩, ⟨y3, y4⟩⟩ := hs
  have k0 : cs[o]? = some (.bool hm) := hv 0 (by decide)
  have k1 : cs[o + 1]? = some (.bool hu) := hv 1 (by decide)
  have k2 : cs[o + 2]? = some (.bool hg) := hv 2 (by decide)
  have k3 : cs[o + 3]? = some (.bool hz) := hv 3 (by decide)
  have k4 : cs[o + 4]? = some (.int .i64 mode) := hv 4 (by decide)
  have k5 : cs[o + 5]? = some (.int .u32 uid) := hv 5 (by decide)
  have k6 : cs[o + 6]? = some (.int .u32 gid) := hv 6 (by decide)
  have k7 : cs[o + 7]? = some (.int .u64 size) := hv 7 (by decide)
  have k8 : cs[o + 8]? = some (.int .i64 ah) := hv 8 (by decide)
  have k9 : cs[o + 9]? = some (.int .i64 mh) := hv 9 (by decide)
  have k10 : cs[o + 10]? = some (.int .u32 a1) := hv 10 (by decide)
  have k11 : cs[o + 11]? = some (.int .u32 a2) := hv 11 (by decide)
  have k12 : cs[o + 12]? = some (.int .u32 m1) := hv 12 (by decide)
  have k13 : cs[o + 13]? = some (.int .u32 m2) := hv 13 (by decide)
  clear hv
  have q0 : ∃ b0 : List Value, b0 = bs := ⟨_, rfl⟩
  have hb0 : bs.length ≤ 500000000 + 12 * 0 := hlen
  repeat (first | (with_reducible refine Wp.st ?_; simp only [wS]) | with_reducible refine Wp.drawS (by decide +kernel) ?_ | simp (disch := (first | (simp only [List.length_set, hl]; omega) | omega | rfl)) only [walkA, walkB, bne_self_eq_false, beq_self_eq_true, Option.map_some, Option.map_none, reduceIte, decide_true, decide_false, Int.reduceLT, Int.reduceLE, Int.reduceMul, Int.reduceAdd, Int.reduceSub, h0, h1, faS0])
  refine (truthW_am Z H0 _ kc kw _ _ _ L kt cs T o hm c k0 (by have := hb0; omega)).mono ?_
  intro v hA q
  rw [q.1]
  obtain ⟨v1, c1⟩ := q.2
  clear q
  repeat (first | (with_reducible refine Wp.st ?_; simp only [wS]) | with_reducible refine Wp.drawS (by decide +kernel) ?_ | simp (disch := (first | (simp only [List.length_set, hl]; omega) | omega | rfl)) only [walkA, walkB, bne_self_eq_false, beq_self_eq_true, Option.map_some, Option.map_none, reduceIte, decide_true, decide_false, Int.reduceLT, Int.reduceLE, Int.reduceMul, Int.reduceAdd, Int.reduceSub, h0, h1])
  refine Wp.mono (Q := WQS kc kt o fun h' => ∃ v', CW Z H0 h' kc kw v' (bs ++ wOpt hm (beTo (IntKind.u32.wrap mode) 4)) (bad || (hm && badIn 0 4294967295 mode)) ((kt, cs, T) :: L)) ?_ ?_
  · cases hb : hm with
    | true =>
      rw [hb] at c1
      have e1 : wOpt true (beTo (IntKind.u32.wrap mode) 4) = beTo (if true = true then 1 else 0) 4 ++ beTo (IntKind.u32.wrap mode) 4 := rfl
      rw [e1, ← List.append_assoc]
      refine Wp.cond_true (by first | ((simp (disch := (first | (simp only [List.length_set, hl]; omega) | omega | rfl)) only [sL, aEval_tmp, hb]); done) | ((simp (disch := (first | (simp only [List.length_set, hl]; omega) | omega | rfl)) only [sL, aEval_tmp, hb]); rfl)) ?_
      repeat (first | (with_reducible refine Wp.st ?_; simp only [wS]) | with_reducible refine Wp.drawS (by decide +kernel) ?_ | simp (disch := (first | (simp only [List.length_set, hl]; omega) | omega | rfl)) only [walkA, walkB, bne_self_eq_false, beq_self_eq_true, Option.map_some, Option.map_none, reduceIte, decide_true, decide_false, Int.reduceLT, Int.reduceLE, Int.reduceMul, Int.reduceAdd, Int.reduceSub, h0, h1, faS4])
      refine (numW_am Z H0 _ kc kw v1 _ _ L kt cs T (o + 4) 0 4294967295 mode c1 k4 (by rw [List.length_append, beTo_length]; have := hb0; omega)).mono ?_
      intro v hB q
      rw [q.1]
      obtain ⟨v2, c2⟩ := q.2
      clear q
      repeat (first | (with_reducible refine Wp.st ?_; simp only [wS]) | with_reducible refine Wp.drawS (by decide +kernel) ?_ | simp (disch := (first | (simp only [List.length_set, hl]; omega) | omega | rfl)) only [walkA, walkB, bne_self_eq_false, beq_self_eq_true, Option.map_some, Option.map_none, reduceIte, decide_true, decide_false, Int.reduceLT, Int.reduceLE, Int.reduceMul, Int.reduceAdd, Int.reduceSub, h0, h1])
      exact ⟨rfl, by simp [hl], (by (simp (disch := (first | (simp only [List.length_set, hl]; omega) | omega | rfl)) only [sL, h0])), (by (simp (disch := (first | (simp only [List.length_set, hl]; omega) | omega | rfl)) only [sL, h1])), v2, c2⟩
    | false =>
      rw [hb] at c1
      have e1 : wOpt false (beTo (IntKind.u32.wrap mode) 4) = beTo (if false = true then 1 else 0) 4 := by simp [wOpt, wTr]
      rw [e1, Bool.false_and, Bool.or_false]
      refine Wp.cond_false (by first | ((simp (disch := (first | (simp only [List.length_set, hl]; omega) | omega | rfl)) only [sL, aEval_tmp, hb]); done) | ((simp (disch := (first | (simp only [List.length_set, hl]; omega) | omega | rfl)) only [sL, aEval_tmp, hb]); rfl)) ?_
      repeat (first | (with_reducible refine Wp.st ?_; simp only [wS]) | with_reducible refine Wp.drawS (by decide +kernel) ?_ | simp (disch := (first | (simp only [List.length_set, hl]; omega) | omega | rfl)) only [walkA, walkB, bne_self_eq_false, beq_self_eq_true, Option.map_some, Option.map_none, reduceIte, decide_true, decide_false, Int.reduceLT, Int.reduceLE, Int.reduceMul, Int.reduceAdd, Int.reduceSub, h0, h1])
      exact ⟨rfl, by simp [hl], (by (simp (disch := (first | (simp only [List.length_set, hl]; omega) | omega | rfl)) only [sL, h0])), (by (simp (disch := (first | (simp only [List.length_set, hl]; omega) | omega | rfl)) only [sL, h1])), v1, by simpa using c1⟩
  have hb1 : (bs ++ wOpt hm (beTo (IntKind.u32.wrap mode) 4)).length ≤ 500000000 + 12 * 1 := by have := hb0; have w := wOpt_len hm (l := beTo (IntKind.u32.wrap mode) 4) (by rw [beTo_length]; decide); simp only [List.length_append] at this ⊢; omega
  clear h0 h1 hl c c1 hA
  clear env
  intro ax env h q
  obtain ⟨hax, hl, h0, h1, wv, c⟩ := q
  rw [hax]
  clear hax
  repeat (first | (with_reducible refine Wp.st ?_; simp only [wS]) | with_reducible refine Wp.drawS (by decide +kernel) ?_ | simp (disch := (first | (simp only [List.length_set, hl]; omega) | omega | rfl)) only [walkA, walkB, bne_self_eq_false, beq_self_eq_true, Option.map_some, Option.map_none, reduceIte, decide_true, decide_false, Int.reduceLT, Int.reduceLE, Int.reduceMul, Int.reduceAdd, Int.reduceSub, h0, h1, faS1])
  refine (truthW_am Z H0 _ kc kw _ _ _ L kt cs T (o + 1) hu c k1 (by have := hb1; omega)).mono ?_
  intro v hA q
  rw [q.1]
  obtain ⟨v1, c1⟩ := q.2
  clear q
  repeat (first | (with_reducible refine Wp.st ?_; simp only [wS]) | with_reducible refine Wp.drawS (by decide +kernel) ?_ | simp (disch := (first | (simp only [List.length_set, hl]; omega) | omega | rfl)) only [walkA, walkB, bne_self_eq_false, beq_self_eq_true, Option.map_some, Option.map_none, reduceIte, decide_true, decide_false, Int.reduceLT, Int.reduceLE, Int.reduceMul, Int.reduceAdd, Int.reduceSub, h0, h1])
  refine Wp.mono (Q := WQS kc kt o fun h' => ∃ v', CW Z H0 h' kc kw v' (bs ++ wOpt hm (beTo (IntKind.u32.wrap mode) 4) ++ wOpt hu (beTo uid 4)) (bad || (hm && badIn 0 4294967295 mode)) ((kt, cs, T) :: L)) ?_ ?_
  · cases hb : hu with
    | true =>
      rw [hb] at c1
      have e1 : wOpt true (beTo uid 4) = beTo (if true = true then 1 else 0) 4 ++ beTo uid 4 := rfl
      rw [e1, ← List.append_assoc]
      refine Wp.cond_true (by first | ((simp (disch := (first | (simp only [List.length_set, hl]; omega) | omega | rfl)) only [sL, aEval_tmp, hb]); done) | ((simp (disch := (first | (simp only [List.length_set, hl]; omega) | omega | rfl)) only [sL, aEval_tmp, hb]); rfl)) ?_
      repeat (first | (with_reducible refine Wp.st ?_; simp only [wS]) | with_reducible refine Wp.drawS (by decide +kernel) ?_ | simp (disch := (first | (simp only [List.length_set, hl]; omega) | omega | rfl)) only [walkA, walkB, bne_self_eq_false, beq_self_eq_true, Option.map_some, Option.map_none, reduceIte, decide_true, decide_false, Int.reduceLT, Int.reduceLE, Int.reduceMul, Int.reduceAdd, Int.reduceSub, h0, h1, faS5, bp32])
      refine (u32W1 Z H0 _ kc kw v1 _ _ L kt cs T (o + 5) uid c1 k5 u1 u2 (by rw [List.length_append, beTo_length]; have := hb1; omega)).mono ?_
      intro v hB q
      rw [q.1]
      obtain ⟨v2, c2⟩ := q.2
      clear q
      repeat (first | (with_reducible refine Wp.st ?_; simp only [wS]) | with_reducible refine Wp.drawS (by decide +kernel) ?_ | simp (disch := (first | (simp only [List.length_set, hl]; omega) | omega | rfl)) only [walkA, walkB, bne_self_eq_false, beq_self_eq_true, Option.map_some, Option.map_none, reduceIte, decide_true, decide_false, Int.reduceLT, Int.reduceLE, Int.reduceMul, Int.reduceAdd, Int.reduceSub, h0, h1])
      exact ⟨rfl, by simp [hl], (by (simp (disch := (first | (simp only [List.length_set, hl]; omega) | omega | rfl)) only [sL, h0])), (by (simp (disch := (first | (simp only [List.length_set, hl]; omega) | omega | rfl)) only [sL, h1])), v2, c2⟩
    | false =>
      rw [hb] at c1
      have e1 : wOpt false (beTo uid 4) = beTo (if false = true then 1 else 0) 4 := by simp [wOpt, wTr]
      rw [e1]
      refine Wp.cond_false (by first | ((simp (disch := (first | (simp only [List.length_set, hl]; omega) | omega | rfl)) only [sL, aEval_tmp, hb]); done) | ((simp (disch := (first | (simp only [List.length_set, hl]; omega) | omega | rfl)) only [sL, aEval_tmp, hb]); rfl)) ?_
      repeat (first | (with_reducible refine Wp.st ?_; simp only [wS]) | with_reducible refine Wp.drawS (by decide +kernel) ?_ | simp (disch := (first | (simp only [List.length_set, hl]; omega) | omega | rfl)) only [walkA, walkB, bne_self_eq_false, beq_self_eq_true, Option.map_some, Option.map_none, reduceIte, decide_true, decide_false, Int.reduceLT, Int.reduceLE, Int.reduceMul, Int.reduceAdd, Int.reduceSub, h0, h1])
      exact ⟨rfl, by simp [hl], (by (simp (disch := (first | (simp only [List.length_set, hl]; omega) | omega | rfl)) only [sL, h0])), (by (simp (disch := (first | (simp only [List.length_set, hl]; omega) | omega | rfl)) only [sL, h1])), v1, by simpa using c1⟩
  have hb2 : (bs ++ wOpt hm (beTo (IntKind.u32.wrap mode) 4) ++ wOpt hu (beTo uid 4)).length ≤ 500000000 + 12 * 2 := by have := hb1; have w := wOpt_len hu (l := beTo uid 4) (by rw [beTo_length]; decide); simp only [List.length_append] at this ⊢; omega
  clear h0 h1 hl c c1 hA
  clear env
  intro ax env h q
  obtain ⟨hax, hl, h0, h1, wv, c⟩ := q
  rw [hax]
  clear hax
  repeat (first | (with_reducible refine Wp.st ?_; simp only [wS]) | with_reducible refine Wp.drawS (by decide +kernel) ?_ | simp (disch := (first | (simp only [List.length_set, hl]; omega) | omega | rfl)) only [walkA, walkB, bne_self_eq_false, beq_self_eq_true, Option.map_some, Option.map_none, reduceIte, decide_true, decide_false, Int.reduceLT, Int.reduceLE, Int.reduceMul, Int.reduceAdd, Int.reduceSub, h0, h1, faS2])
  refine (truthW_am Z H0 _ kc kw _ _ _ L kt cs T (o + 2) hg c k2 (by have := hb2; omega)).mono ?_
  intro v hA q
  rw [q.1]
  obtain ⟨v1, c1⟩ := q.2
  clear q
  repeat (first | (with_reducible refine Wp.st ?_; simp only [wS]) | with_reducible refine Wp.drawS (by decide +kernel) ?_ | simp (disch := (first | (simp only [List.length_set, hl]; omega) | omega | rfl)) only [walkA, walkB, bne_self_eq_false, beq_self_eq_true, Option.map_some, Option.map_none, reduceIte, decide_true, decide_false, Int.reduceLT, Int.reduceLE, Int.reduceMul, Int.reduceAdd, Int.reduceSub, h0, h1])
  refine Wp.mono (Q := WQS kc kt o fun h' => ∃ v', CW Z H0 h' kc kw v' (bs ++ wOpt hm (beTo (IntKind.u32.wrap mode) 4) ++ wOpt hu (beTo uid 4) ++ wOpt hg (beTo gid 4)) (bad || (hm && badIn 0 4294967295 mode)) ((kt, cs, T) :: L)) ?_ ?_
  · cases hb : hg with
    | true =>
      rw [hb] at c1
      have e1 : wOpt true (beTo gid 4) = beTo (if true = true then 1 else 0) 4 ++ beTo gid 4 := rfl
      rw [e1, ← List.append_assoc]
      refine Wp.cond_true (by first | ((simp (disch := (first | (simp only [List.length_set, hl]; omega) | omega | rfl)) only [sL, aEval_tmp, hb]); done) | ((simp (disch := (first | (simp only [List.length_set, hl]; omega) | omega | rfl)) only [sL, aEval_tmp, hb]); rfl)) ?_
      repeat (first | (with_reducible refine Wp.st ?_; simp only [wS]) | with_reducible refine Wp.drawS (by decide +kernel) ?_ | simp (disch := (first | (simp only [List.length_set, hl]; omega) | omega | rfl)) only [walkA, walkB, bne_self_eq_false, beq_self_eq_true, Option.map_some, Option.map_none, reduceIte, decide_true, decide_false, Int.reduceLT, Int.reduceLE, Int.reduceMul, Int.reduceAdd, Int.reduceSub, h0, h1, faS6, bp32])
      refine (u32W1 Z H0 _ kc kw v1 _ _ L kt cs T (o + 6) gid c1 k6 g1 g2 (by rw [List.length_append, beTo_length]; have := hb2; omega)).mono ?_
      intro v hB q
      rw [q.1]
      obtain ⟨v2, c2⟩ := q.2
      clear q
      repeat (first | (with_reducible refine Wp.st ?_; simp only [wS]) | with_reducible refine Wp.drawS (by decide +kernel) ?_ | simp (disch := (first | (simp only [List.length_set, hl]; omega) | omega | rfl)) only [walkA, walkB, bne_self_eq_false, beq_self_eq_true, Option.map_some, Option.map_none, reduceIte, decide_true, decide_false, Int.reduceLT, Int.reduceLE, Int.reduceMul, Int.reduceAdd, Int.reduceSub, h0, h1])
      exact ⟨rfl, by simp [hl], (by (simp (disch := (first | (simp only [List.length_set, hl]; omega) | omega | rfl)) only [sL, h0])), (by (simp (disch := (first | (simp only [List.length_set, hl]; omega) | omega | rfl)) only [sL, h1])), v2, c2⟩
    | false =>
      rw [hb] at c1
      have e1 : wOpt false (beTo gid 4) = beTo (if false = true then 1 else 0) 4 := by simp [wOpt, wTr]
      rw [e1]
      refine Wp.cond_false (by first | ((simp (disch := (first | (simp only [List.length_set, hl]; omega) | omega | rfl)) only [sL, aEval_tmp, hb]); done) | ((simp (disch := (first | (simp only [List.length_set, hl]; omega) | omega | rfl)) only [sL, aEval_tmp, hb]); rfl)) ?_
      repeat (first | (with_reducible refine Wp.st ?_; simp only [wS]) | with_reducible refine Wp.drawS (by decide +kernel) ?_ | simp (disch := (first | (simp only [List.length_set, hl]; omega) | omega | rfl)) only [walkA, walkB, bne_self_eq_false, beq_self_eq_true, Option.map_some, Option.map_none, reduceIte, decide_true, decide_false, Int.reduceLT, Int.reduceLE, Int.reduceMul, Int.reduceAdd, Int.reduceSub, h0, h1])
      exact ⟨rfl, by simp [hl], (by (simp (disch := (first | (simp only [List.length_set, hl]; omega) | omega | rfl)) only [sL, h0])), (by (simp (disch := (first | (simp only [List.length_set, hl]; omega) | omega | rfl)) only [sL, h1])), v1, by simpa using c1⟩
  have hb3 : (bs ++ wOpt hm (beTo (IntKind.u32.wrap mode) 4) ++ wOpt hu (beTo uid 4) ++ wOpt hg (beTo gid 4)).length ≤ 500000000 + 12 * 3 := by have := hb2; have w := wOpt_len hg (l := beTo gid 4) (by rw [beTo_length]; decide); simp only [List.length_append] at this ⊢; omega
  clear h0 h1 hl c c1 hA
  clear env
  intro ax env h q
  obtain ⟨hax, hl, h0, h1, wv, c⟩ := q
  rw [hax]
  clear hax
  repeat (first | (with_reducible refine Wp.st ?_; simp only [wS]) | with_reducible refine Wp.drawS (by decide +kernel) ?_ | simp (disch := (first | (simp only [List.length_set, hl]; omega) | omega | rfl)) only [walkA, walkB, bne_self_eq_false, beq_self_eq_true, Option.map_some, Option.map_none, reduceIte, decide_true, decide_false, Int.reduceLT, Int.reduceLE, Int.reduceMul, Int.reduceAdd, Int.reduceSub, h0, h1, faS3])
  refine (truthW_am Z H0 _ kc kw _ _ _ L kt cs T (o + 3) hz c k3 (by have := hb3; omega)).mono ?_
  intro v hA q
  rw [q.1]
  obtain ⟨v1, c1⟩ := q.2
  clear q
  repeat (first | (with_reducible refine Wp.st ?_; simp only [wS]) | with_reducible refine Wp.drawS (by decide +kernel) ?_ | simp (disch := (first | (simp only [List.length_set, hl]; omega) | omega | rfl)) only [walkA, walkB, bne_self_eq_false, beq_self_eq_true, Option.map_some, Option.map_none, reduceIte, decide_true, decide_false, Int.reduceLT, Int.reduceLE, Int.reduceMul, Int.reduceAdd, Int.reduceSub, h0, h1])
  refine Wp.mono (Q := WQS kc kt o fun h' => ∃ v', CW Z H0 h' kc kw v' (bs ++ wOpt hm (beTo (IntKind.u32.wrap mode) 4) ++ wOpt hu (beTo uid 4) ++ wOpt hg (beTo gid 4) ++ wOpt hz (beTo size 8)) (bad || (hm && badIn 0 4294967295 mode)) ((kt, cs, T) :: L)) ?_ ?_
  · cases hb : hz with
    | true =>
      rw [hb] at c1
      have e1 : wOpt true (beTo size 8) = beTo (if true = true then 1 else 0) 4 ++ beTo size 8 := rfl
      rw [e1, ← List.append_assoc]
      refine Wp.cond_true (by first | ((simp (disch := (first | (simp only [List.length_set, hl]; omega) | omega | rfl)) only [sL, aEval_tmp, hb]); done) | ((simp (disch := (first | (simp only [List.length_set, hl]; omega) | omega | rfl)) only [sL, aEval_tmp, hb]); rfl)) ?_
      repeat (first | (with_reducible refine Wp.st ?_; simp only [wS]) | with_reducible refine Wp.drawS (by decide +kernel) ?_ | simp (disch := (first | (simp only [List.length_set, hl]; omega) | omega | rfl)) only [walkA, walkB, bne_self_eq_false, beq_self_eq_true, Option.map_some, Option.map_none, reduceIte, decide_true, decide_false, Int.reduceLT, Int.reduceLE, Int.reduceMul, Int.reduceAdd, Int.reduceSub, h0, h1, faS7, bp64])
      refine (u64W1 Z H0 _ kc kw v1 _ _ L kt cs T (o + 7) size c1 k7 (by rw [List.length_append, beTo_length]; have := hb3; omega)).mono ?_
      intro v hB q
      rw [q.1]
      obtain ⟨v2, c2⟩ := q.2
      clear q
      repeat (first | (with_reducible refine Wp.st ?_; simp only [wS]) | with_reducible refine Wp.drawS (by decide +kernel) ?_ | simp (disch := (first | (simp only [List.length_set, hl]; omega) | omega | rfl)) only [walkA, walkB, bne_self_eq_false, beq_self_eq_true, Option.map_some, Option.map_none, reduceIte, decide_true, decide_false, Int.reduceLT, Int.reduceLE, Int.reduceMul, Int.reduceAdd, Int.reduceSub, h0, h1])
      exact ⟨rfl, by simp [hl], (by (simp (disch := (first | (simp only [List.length_set, hl]; omega) | omega | rfl)) only [sL, h0])), (by (simp (disch := (first | (simp only [List.length_set, hl]; omega) | omega | rfl)) only [sL, h1])), v2, c2⟩
    | false =>
      rw [hb] at c1
      have e1 : wOpt false (beTo size 8) = beTo (if false = true then 1 else 0) 4 := by simp [wOpt, wTr]
      rw [e1]
      refine Wp.cond_false (by first | ((simp (disch := (first | (simp only [List.length_set, hl]; omega) | omega | rfl)) only [sL, aEval_tmp, hb]); done) | ((simp (disch := (first | (simp only [List.length_set, hl]; omega) | omega | rfl)) only [sL, aEval_tmp, hb]); rfl)) ?_
      repeat (first | (with_reducible refine Wp.st ?_; simp only [wS]) | with_reducible refine Wp.drawS (by decide +kernel) ?_ | simp (disch := (first | (simp only [List.length_set, hl]; omega) | omega | rfl)) only [walkA, walkB, bne_self_eq_false, beq_self_eq_true, Option.map_some, Option.map_none, reduceIte, decide_true, decide_false, Int.reduceLT, Int.reduceLE, Int.reduceMul, Int.reduceAdd, Int.reduceSub, h0, h1])
      exact ⟨rfl, by simp [hl], (by (simp (disch := (first | (simp only [List.length_set, hl]; omega) | omega | rfl)) only [sL, h0])), (by (simp (disch := (first | (simp only [List.length_set, hl]; omega) | omega | rfl)) only [sL, h1])), v1, by simpa using c1⟩
  have hb4 : (bs ++ wOpt hm (beTo (IntKind.u32.wrap mode) 4) ++ wOpt hu (beTo uid 4) ++ wOpt hg (beTo gid 4) ++ wOpt hz (beTo size 8)).length ≤ 500000000 + 12 * 4 := by have := hb3; have w := wOpt_len hz (l := beTo size 8) (by rw [beTo_length]; decide); simp only [List.length_append] at this ⊢; omega
  clear h0 h1 hl c c1 hA
  clear env
  intro ax env h q
  obtain ⟨hax, hl, h0, h1, wv, c⟩ := q
  rw [hax]
  clear hax
  repeat (first | (with_reducible refine Wp.st ?_; simp only [wS]) | with_reducible refine Wp.drawS (by decide +kernel) ?_ | simp (disch := (first | (simp only [List.length_set, hl]; omega) | omega | rfl)) only [walkA, walkB, bne_self_eq_false, beq_self_eq_true, Option.map_some, Option.map_none, reduceIte, decide_true, decide_false, Int.reduceLT, Int.reduceLE, Int.reduceMul, Int.reduceAdd, Int.reduceSub, h0, h1, faS8, faS10])
  refine (howW_am Z H0 _ kc kw wv _ _ L kt cs T (o + 8) (o + 10) ah a1 a2 c k8 k10 x1 x2 k11 x3 x4 (by omega)).mono ?_
  intro v hA q
  rw [q.1]
  obtain ⟨v1, c1⟩ := q.2
  clear q
  have j9 : (wHowC ah (o + 10) cs)[o + 9]? = some (.int .i64 mh) := by rw [wHowC_get (by omega) (by omega)]; exact k9
  have j12 : (wHowC ah (o + 10) cs)[o + 12]? = some (.int .u32 m1) := by rw [wHowC_get (by omega) (by omega)]; exact k12
  have j13 : (wHowC ah (o + 10) cs)[o + 12 + 1]? = some (.int .u32 m2) := by rw [wHowC_get (by omega) (by omega)]; exact k13
  repeat (first | (with_reducible refine Wp.st ?_; simp only [wS]) | with_reducible refine Wp.drawS (by decide +kernel) ?_ | simp (disch := (first | (simp only [List.length_set, hl]; omega) | omega | rfl)) only [walkA, walkB, bne_self_eq_false, beq_self_eq_true, Option.map_some, Option.map_none, reduceIte, decide_true, decide_false, Int.reduceLT, Int.reduceLE, Int.reduceMul, Int.reduceAdd, Int.reduceSub, h0, h1, faS9, faS11])
  refine (howW_am Z H0 _ kc kw v1 _ _ L kt _ T (o + 9) (o + 12) mh m1 m2 c1 j9 j12 y1 y2 j13 y3 y4 (by rw [List.length_append]; have := wHowB_len ah a1 a2; omega)).mono ?_
  intro v hB q
  rw [q.1]
  obtain ⟨v2, c2⟩ := q.2
  clear q
  repeat (first | (with_reducible refine Wp.st ?_; simp only [wS]) | with_reducible refine Wp.drawS (by decide +kernel) ?_ | simp (disch := (first | (simp only [List.length_set, hl]; omega) | omega | rfl)) only [walkA, walkB, bne_self_eq_false, beq_self_eq_true, Option.map_some, Option.map_none, reduceIte, decide_true, decide_false, Int.reduceLT, Int.reduceLE, Int.reduceMul, Int.reduceAdd, Int.reduceSub, h0])
  simp only [aRes_none Try.results52]
  refine ⟨trivial, v2, ?_⟩
  simpa [wSetB, wSetBad, wSetC, badIn, Bool.or_assoc] using c2
end
end Go.Proofs.Ytanknjpcgceccaa

namespace Go.Proofs.Ytanknjpcgceccaa
open Go Go.AM
set_option linter.unusedSimpArgs false
set_option maxRecDepth 100000
theorem intsOf_str : ∀ l : List UInt8, intsOf (l.map fun b => Value.int .u8 b.toNat) = some (l.map fun b => (b.toNat : Int))
  | [] => rfl
  | b :: l => by simp only [List.map_cons, intsOf, intsOf_str l]
theorem strS_str (s : ByteArray) : strS (strB s) = s := by
  unfold strS strB
  rw [intsOf_str]
  show strOfNums _ = s
  unfold strOfNums
  rw [List.map_map]
  have : (s.data.toList.map ((fun n : Int => UInt8.ofNat n.toNat) ∘ fun b : UInt8 => (b.toNat : Int))) = s.data.toList := by
    conv => rhs; rw [← List.map_id s.data.toList]
    exact List.map_congr_left fun b _ => by simp
  rw [this]
theorem isB_str (s : ByteArray) : isB (strB s) := ⟨_, intsOf_str _⟩
theorem cvBack (s : ByteArray) (h : Heap) (v : Value) (r : Row h v (strB s)) : aConv Try.prog h 22 9 v = some (.string s, h) := by
  rw [conv_row r (isB_str s), strS_str]
structure AR where
  file : ByteArray
  to : ByteArray
  name : ByteArray
  toName : ByteArray
  path : ByteArray
  set : SA
  guard : Bool
  g1 : Int
  g2 : Int
  access : Int
  offset : Int
  count : Int
  stable : Int
  mode : Int
  type : Int
  dv : Value
  data : List Value
  verf : Int
  cookie : Int
  cookieVerf : Int
  dirCount : Int
  maxCount : Int
  spec1 : Int
  spec2 : Int
def AR.cells (a : AR) : List Value :=
  [.string a.file, .string a.to, .string a.name, .string a.toName, .string a.path] ++ a.set.cells ++
  [.bool a.guard, .int .u32 a.g1, .int .u32 a.g2, .int .u32 a.access, .int .u64 a.offset, .int .u32 a.count, .int .i64 a.stable, .int .i64 a.mode, .int .i64 a.type, a.dv, .int .u64 a.verf, .int .u64 a.cookie, .int .u64 a.cookieVerf, .int .u32 a.dirCount, .int .u32 a.maxCount, .int .u32 a.spec1, .int .u32 a.spec2]
structure WS where
  bs : List Value
  bad : Bool
def wU32 (n : Int) (x : WS) : WS := ⟨x.bs ++ beTo n 4, x.bad⟩
def wU64 (n : Int) (x : WS) : WS := ⟨x.bs ++ beTo n 8, x.bad⟩
def wBool (b : Bool) (x : WS) : WS := ⟨x.bs ++ wTr b, x.bad⟩
def wNum (a b n : Int) (x : WS) : WS := ⟨x.bs ++ beTo (IntKind.u32.wrap n) 4, x.bad || badIn a b n⟩
def wRow (most : Int) (l : List Value) (x : WS) : WS := ⟨x.bs ++ (beTo l.length 4 ++ (l ++ padB l.length)), x.bad || !(decide ((l.length : Int) ≤ most))⟩
def wText (most : Int) (s : ByteArray) (x : WS) : WS := ⟨x.bs ++ (beTo s.size 4 ++ (strB s ++ padB s.size)), x.bad || !(decide ((s.size : Int) ≤ most))⟩
def wSet (s : SA) (x : WS) : WS := ⟨x.bs ++ wSetB s, x.bad || wSetBad s⟩
end Go.Proofs.Ytanknjpcgceccaa

namespace Go.Proofs.Ytanknjpcgceccaa
open Go Go.AM
set_option linter.unusedSimpArgs false
set_option maxRecDepth 100000
attribute [local irreducible] WOps WV WH WSt WNil WPick WGd
def CWS (Z : Nat → Prop) (H0 h : Heap) (kc kw : Nat) (x : WS) (kt : Nat) (cs : List Value) (T : TypeId) (L : List Blk) : Prop := ∃ wv, CW Z H0 h kc kw wv x.bs x.bad ((kt, cs, T) :: L)
def small9 (x : WS) : Prop := x.bs.length ≤ 900000
section
variable {Z : Nat → Prop} {H0 h : Heap} {kc kw : Nat} {x : WS} {L : List Blk} {kt : Nat} {cs : List Value} {T : TypeId}
theorem CWS.ld {t : TypeId} {d : TypeDesc} (c : CWS Z H0 h kc kw x kt cs T L) (hu : Try.prog.underlying t = some d) (h1 : ∀ fs, d ≠ .struct fs) (h2 : ∀ n e, d ≠ .array n e) (o : Nat) : aLoad Try.prog h t (pt kt o) = cs[o]? := by
  obtain ⟨wv, c⟩ := c
  exact CW.ld c hu h1 h2 o
theorem CWS.lw (c : CWS Z H0 h kc kw x kt cs T L) : aLoad Try.prog h 67 (.pointer (some ⟨kc, 0 + 1, none⟩)) = some (pt kw 0) := by
  obtain ⟨wv, c⟩ := c
  exact CW.lw c
theorem textWS {o : Nat} {most : Int} {s0 : ByteArray} (c : CWS Z H0 h kc kw x kt cs T L) (hv : cs[o]? = some (.string s0)) (hs0 : s0.size ≤ 40000) (hl : small9 x) :
    Cl Try.prog 51 [pt kc 0, pt kt o, .int .i64 most] h fun v h' => v = .tuple #[] ∧ CWS Z H0 h' kc kw (wText most s0 x) kt cs T L := by
  obtain ⟨wv, c⟩ := c
  exact textW_am Z H0 h kc kw wv _ _ L kt cs T o most s0 c hv hs0 hl (cvBack s0)
theorem numWS {o : Nat} {a b v0 : Int} (c : CWS Z H0 h kc kw x kt cs T L) (hv : cs[o]? = some (.int .i64 v0)) (hl : small9 x) :
    Cl Try.prog 57 [pt kc 0, pt kt o, .int .i64 a, .int .i64 b] h fun v h' => v = .tuple #[] ∧ CWS Z H0 h' kc kw (wNum a b v0 x) kt cs T L := by
  obtain ⟨wv, c⟩ := c
  exact numW_am Z H0 h kc kw wv _ _ L kt cs T o a b v0 c hv (Nat.le_trans hl (by decide))
theorem truthWS {o : Nat} {b : Bool} (c : CWS Z H0 h kc kw x kt cs T L) (hv : cs[o]? = some (.bool b)) (hl : small9 x) :
    Cl Try.prog 53 [pt kc 0, pt kt o] h fun v h' => v = .bool b ∧ CWS Z H0 h' kc kw (wBool b x) kt cs T L := by
  obtain ⟨wv, c⟩ := c
  exact truthW_am Z H0 h kc kw wv _ _ L kt cs T o b c hv (Nat.le_trans hl (by decide))
theorem u32WS1 {o : Nat} {n : Int} (c : CWS Z H0 h kc kw x kt cs T L) (hv : cs[o]? = some (.int .u32 n)) (hn : u32r n) (hl : small9 x) :
    Cl Try.prog 55 [pt kc 0, .slice (some ⟨h.next, 0, none⟩) 1 1] (h.push (.cells [pt kt o] 123 false)) fun v h' => v = .tuple #[] ∧ CWS Z H0 h' kc kw (wU32 n x) kt cs T L := by
  obtain ⟨wv, c⟩ := c
  exact u32W1 Z H0 h kc kw wv _ _ L kt cs T o n c hv hn.1 hn.2 (Nat.le_trans hl (by decide))
theorem u64WS1 {o : Nat} {n : Int} (c : CWS Z H0 h kc kw x kt cs T L) (hv : cs[o]? = some (.int .u64 n)) (hl : small9 x) :
    Cl Try.prog 56 [pt kc 0, .slice (some ⟨h.next, 0, none⟩) 1 1] (h.push (.cells [pt kt o] 125 false)) fun v h' => v = .tuple #[] ∧ CWS Z H0 h' kc kw (wU64 n x) kt cs T L := by
  obtain ⟨wv, c⟩ := c
  exact u64W1 Z H0 h kc kw wv _ _ L kt cs T o n c hv (Nat.le_trans hl (by decide))
theorem u32WS2 {o p : Nat} {n m : Int} (c : CWS Z H0 h kc kw x kt cs T L) (hv : cs[o]? = some (.int .u32 n)) (hn : u32r n) (hv2 : cs[p]? = some (.int .u32 m)) (hm : u32r m) (hl : small9 x) :
    Cl Try.prog 55 [pt kc 0, .slice (some ⟨h.next, 0, none⟩) 2 2] (h.push (.cells [pt kt o, pt kt p] 123 false)) fun v h' => v = .tuple #[] ∧ CWS Z H0 h' kc kw (wU32 m (wU32 n x)) kt cs T L := by
  obtain ⟨wv, c⟩ := c
  refine (u32W2 Z H0 h kc kw wv _ _ L kt cs T o p n m c hv hn.1 hn.2 hv2 hm.1 hm.2 (Nat.le_trans hl (by decide))).mono fun v h' q => ⟨q.1, ?_⟩
  obtain ⟨v', c'⟩ := q.2
  exact ⟨v', by simpa [wU32] using c'⟩
theorem u64WS2 {o p : Nat} {n m : Int} (c : CWS Z H0 h kc kw x kt cs T L) (hv : cs[o]? = some (.int .u64 n)) (hv2 : cs[p]? = some (.int .u64 m)) (hl : small9 x) :
    Cl Try.prog 56 [pt kc 0, .slice (some ⟨h.next, 0, none⟩) 2 2] (h.push (.cells [pt kt o, pt kt p] 125 false)) fun v h' => v = .tuple #[] ∧ CWS Z H0 h' kc kw (wU64 m (wU64 n x)) kt cs T L := by
  obtain ⟨wv, c⟩ := c
  refine (u64W2 Z H0 h kc kw wv _ _ L kt cs T o p n m c hv hv2 (Nat.le_trans hl (by decide))).mono fun v h' q => ⟨q.1, ?_⟩
  obtain ⟨v', c'⟩ := q.2
  exact ⟨v', by simpa [wU64] using c'⟩
theorem timeWS {o : Nat} {n m : Int} (c : CWS Z H0 h kc kw x kt cs T L) (hv : cs[o]? = some (.int .u32 n)) (hn : u32r n) (hv2 : cs[o + 1]? = some (.int .u32 m)) (hm : u32r m) (hl : small9 x) :
    Cl Try.prog 54 [pt kc 0, pt kt o] h fun v h' => v = .tuple #[] ∧ CWS Z H0 h' kc kw (wU32 m (wU32 n x)) kt cs T L := by
  obtain ⟨wv, c⟩ := c
  refine (timeW_am Z H0 h kc kw wv _ _ L kt cs T o n m c hv hn.1 hn.2 hv2 hm.1 hm.2 (Nat.le_trans hl (by decide))).mono fun v h' q => ⟨q.1, ?_⟩
  obtain ⟨v', c'⟩ := q.2
  exact ⟨v', by simpa [wU32] using c'⟩
theorem setWS {o : Nat} {s : SA} (hs : s.OK) (c : CWS Z H0 h kc kw x kt cs T L) (hv : ∀ i, i < 14 → cs[o + i]? = s.cells[i]?) (hl : small9 x) :
    Cl Try.prog 52 [pt kc 0, pt kt o] h fun v h' => v = .tuple #[] ∧ CWS Z H0 h' kc kw (wSet s x) kt (wSetC s o cs) T L := by
  obtain ⟨wv, c⟩ := c
  exact setW_am Z H0 h kc kw wv _ _ L kt cs T o s hs c hv (Nat.le_trans hl (by decide))
end
end Go.Proofs.Ytanknjpcgceccaa

namespace Go.Proofs.Ytanknjpcgceccaa
open Go Go.AM
set_option linter.unusedSimpArgs false
set_option maxRecDepth 100000
attribute [local irreducible] WOps WV WH WSt WNil WPick WGd
def Sm (n : Nat) (x : WS) : Prop := x.bs.length ≤ n * 31000
section
variable {n : Nat} {x : WS}
theorem Sm.s9 (h : Sm 29 x) : small9 x := by unfold Sm at h; unfold small9; omega
theorem Sm.le {m : Nat} (h : Sm n x) (hn : n ≤ m) : Sm m x := by unfold Sm at *; omega
theorem padB_le (k : Nat) : (padB k).length ≤ 3 := by rw [padB_length]; unfold pad; omega
theorem sm_u32 {v : Int} (h : Sm n x) : Sm (n + 1) (wU32 v x) := by
  unfold Sm at *; simp only [wU32, List.length_append, beTo_length]; omega
theorem sm_u64 {v : Int} (h : Sm n x) : Sm (n + 1) (wU64 v x) := by
  unfold Sm at *; simp only [wU64, List.length_append, beTo_length]; omega
theorem sm_bool {b : Bool} (h : Sm n x) : Sm (n + 1) (wBool b x) := by
  unfold Sm at *; simp only [wBool, wTr, List.length_append, beTo_length]; omega
theorem sm_num {a b v : Int} (h : Sm n x) : Sm (n + 1) (wNum a b v x) := by
  unfold Sm at *; simp only [wNum, List.length_append, beTo_length]; omega
theorem sm_text {m : Int} {s : ByteArray} (hs : s.size ≤ 30000) (h : Sm n x) : Sm (n + 1) (wText m s x) := by
  unfold Sm at *
  have := padB_le s.size
  simp only [wText, List.length_append, beTo_length, strB_len]; omega
theorem sm_row {m : Int} {l : List Value} (hs : l.length ≤ 30000) (h : Sm n x) : Sm (n + 1) (wRow m l x) := by
  unfold Sm at *
  have := padB_le l.length
  simp only [wRow, List.length_append, beTo_length]; omega
theorem sm_set {s : SA} (h : Sm n x) : Sm (n + 1) (wSet s x) := by
  unfold Sm at *
  have h1 := wOpt_len s.hm (l := beTo (IntKind.u32.wrap s.mode) 4) (by rw [beTo_length]; omega)
  have h2 := wOpt_len s.hu (l := beTo s.uid 4) (by rw [beTo_length]; omega)
  have h3 := wOpt_len s.hg (l := beTo s.gid 4) (by rw [beTo_length]; omega)
  have h4 := wOpt_len s.hs (l := beTo s.size 8) (by rw [beTo_length]; omega)
  have h5 := wHowB_len s.ah s.a1 s.a2
  have h6 := wHowB_len s.mh s.m1 s.m2
  simp only [wSet, wSetB, List.length_append]; omega
end
theorem wSetC_get {s : SA} {o p : Nat} {cs : List Value} (h : p < o + 10 ∨ o + 14 ≤ p) : (wSetC s o cs)[p]? = cs[p]? := by
  unfold wSetC; rw [wHowC_get (by omega) (by omega), wHowC_get (by omega) (by omega)]
structure AR.OK (a : AR) : Prop where
  set : a.set.OK
  g1 : u32r a.g1
  g2 : u32r a.g2
  access : u32r a.access
  count : u32r a.count
  dirCount : u32r a.dirCount
  maxCount : u32r a.maxCount
  spec1 : u32r a.spec1
  spec2 : u32r a.spec2
  file : a.file.size ≤ 30000
  to : a.to.size ≤ 30000
  name : a.name.size ≤ 30000
  toName : a.toName.size ≤ 30000
  path : a.path.size ≤ 30000
  data : a.data.length ≤ 30000
  dOne : a.data.all Value.oneCell' = true
  dSl : ∃ b n c, a.dv = .slice b n c
def wNamed (p : Int) (a : AR) (x : WS) : WS :=
  if p = 8 then (if a.mode = 2 then wU64 a.verf (wNum 0 2 a.mode x) else wSet a.set (wNum 0 2 a.mode x))
  else if p = 9 then wSet a.set x
  else if p = 10 then wText 1024 a.path (wSet a.set x)
  else if p = 11 then (if a.type = 3 ∨ a.type = 4 then wU32 a.spec2 (wU32 a.spec1 (wSet a.set (wNum 1 7 a.type x))) else if a.type = 6 ∨ a.type = 7 then wSet a.set (wNum 1 7 a.type x) else wNum 1 7 a.type x)
  else if p = 14 then wText 255 a.toName (wText 64 a.to x)
  else x
section
variable {Z : Nat → Prop} {H0 h : Heap} {kc kw : Nat} {x : WS} {L : List Blk} {kt : Nat} {T : TypeId} {a : AR}
theorem CWS.ldI {cs : List Value} (c : CWS Z H0 h kc kw x kt cs T L) (o : Nat) : aLoad Try.prog h 3 (pt kt o) = cs[o]? := c.ld Try.underlying3 (by simp) (by simp) o
theorem CWS.dat {cs : List Value} {dv : Value} {ds : List Value} (r : Row H0 dv ds) (hz : ∀ a n c, dv = .slice (some a) n c → n ≠ 0 → Z a.block) : ∀ h' v' bs' b' L', CW Z H0 h' kc kw v' bs' b' (L' ++ (kt, cs, T) :: L) → Off h' v' kw dv ds := fun h' v' bs' b' L' c =>
  ⟨c.st.stayed r hz, fun a n d e hn => ⟨fun hh => hh.elim (fun e2 => c.st.off _ (List.mem_cons_self) (by rw [← e2]; exact hz a n d e hn)) (fun hb => (c.off _ hb).2.1 (hz a n d e hn)), Nat.lt_of_lt_of_le (c.st.low _ (hz a n d e hn)) c.st.nx⟩⟩
theorem rowWS {o : Nat} {most : Int} {dv : Value} {xs cs : List Value} (c : CWS Z H0 h kc kw x kt cs T L) (hv : cs[o]? = some dv) (hsl : ∃ a n c, dv = .slice a n c) (r : Row H0 dv xs) (hz : ∀ a n c, dv = .slice (some a) n c → n ≠ 0 → Z a.block)
    (hx1 : xs.all Value.oneCell' = true) (hxl : xs.length ≤ 40000) (hl : small9 x) :
    Cl Try.prog 58 [pt kc 0, pt kt o, .int .i64 most] h fun v h' => v = .tuple #[] ∧ CWS Z H0 h' kc kw (wRow most xs x) kt cs T L := by
  obtain ⟨wv, c⟩ := c
  exact rowW_am Z H0 h kc kw wv _ _ L kt cs T o most dv xs c hv hsl (CWS.dat r hz) hx1 hxl hl
def CWE (Z : Nat → Prop) (H0 h : Heap) (kc kw : Nat) (x : WS) (kt : Nat) (T : TypeId) (L : List Blk) : Prop := ∃ cs', CWS Z H0 h kc kw x kt cs' T L
theorem CWE.of {cs : List Value} {y : WS} (c : CWS Z H0 h kc kw x kt cs T L) (e : y = x) : CWE Z H0 h kc kw y kt T L := ⟨cs, by rw [e]; exact c⟩
theorem aI25 : a.cells[25]? = some (.int .i64 a.stable) := rfl
theorem aI26 : a.cells[26]? = some (.int .i64 a.mode) := rfl
theorem aI27 : a.cells[27]? = some (.int .i64 a.type) := rfl
theorem setHV : ∀ i, i < 14 → a.cells[5 + i]? = a.set.cells[i]? := by
  intro i hi
  have : i = 0 ∨ i = 1 ∨ i = 2 ∨ i = 3 ∨ i = 4 ∨ i = 5 ∨ i = 6 ∨ i = 7 ∨ i = 8 ∨ i = 9 ∨ i = 10 ∨ i = 11 ∨ i = 12 ∨ i = 13 := (by omega)
  rcases this with rfl | rfl | rfl | rfl | rfl | rfl | rfl | rfl | rfl | rfl | rfl | rfl | rfl | rfl <;> rfl
set_option maxHeartbeats 4000000 in
theorem namedW_am {n : Nat} (p : Int) (hp : p = 3 ∨ p = 8 ∨ p = 9 ∨ p = 10 ∨ p = 11 ∨ p = 12 ∨ p = 13 ∨ p = 14) (hok : a.OK) (sm : Sm n x) (hn : n ≤ 20) (c : CWS Z H0 h kc kw x kt a.cells T L) :
    Cl Try.prog 59 [pt kc 0, .int .i64 p, pt kt 0] h fun v h' => v = .tuple #[] ∧ CWE Z H0 h' kc kw (wNamed p a x) kt T L := by
  refine Cl.enter Try.func59 rfl _ Try.ntmps59 (by simp) ?_
  intro env hl ha
  have h0 : sl env 0 = pt kc 0 := ha 0 (by simp)
  have h1 : sl env 1 = .int .i64 p := ha 1 (by simp)
  have h2 : sl env 2 = pt kt 0 := ha 2 (by simp)
  clear ha
  have ha_g1 := hok.g1
  have ha_g2 := hok.g2
  have ha_access := hok.access
  have ha_count := hok.count
  have ha_dirCount := hok.dirCount
  have ha_maxCount := hok.maxCount
  have ha_spec1 := hok.spec1
  have ha_spec2 := hok.spec2
  have ha_dSl := hok.dSl
  have ha_dOne := hok.dOne
  have hb_file := Nat.le_trans hok.file (show 30000 ≤ 40000 by decide)
  have hc_file := hok.file
  have hb_to := Nat.le_trans hok.to (show 30000 ≤ 40000 by decide)
  have hc_to := hok.to
  have hb_name := Nat.le_trans hok.name (show 30000 ≤ 40000 by decide)
  have hc_name := hok.name
  have hb_toName := Nat.le_trans hok.toName (show 30000 ≤ 40000 by decide)
  have hc_toName := hok.toName
  have hb_path := Nat.le_trans hok.path (show 30000 ≤ 40000 by decide)
  have hc_path := hok.path
  have hb_data := Nat.le_trans hok.data (show 30000 ≤ 40000 by decide)
  have hc_data := hok.data
  rcases hp with rfl | rfl | rfl | rfl | rfl | rfl | rfl | rfl
  all_goals repeat' (first | (with_reducible refine Wp.st ?_; simp only [wS]) | with_reducible refine Wp.drawS (by decide +kernel) ?_ | (refine Wp.cond_true ?_ ?_; focus ((simp (disch := (first | (simp only [List.length_set, hl]; omega) | omega | rfl)) only [sL, aEval_tmp]); done)) | (refine Wp.cond_false ?_ ?_; focus ((simp (disch := (first | (simp only [List.length_set, hl]; omega) | omega | rfl)) only [sL, aEval_tmp]); done)) | ((with_reducible apply Cl.mono (textWS c ?g0 ?g1 ?g2)); (case g0 => (first | (rw [wSetC_get (by decide)]; rfl) | rfl)); (case g1 => (assumption)); (case g2 => ((refine Sm.s9 ?_; (repeat (with_reducible first | refine sm_text (by assumption) ?_ | refine sm_u32 ?_ | refine sm_u64 ?_ | refine sm_num ?_ | refine sm_set ?_ | refine sm_bool ?_ | refine sm_row (by assumption) ?_)); exact Sm.le sm (by omega)))); intro v ha q; (try rw [q.1]); replace c := q.2; clear q) | ((with_reducible apply Cl.mono (numWS c ?g0 ?g1)); (case g0 => (first | (rw [wSetC_get (by decide)]; rfl) | rfl)); (case g1 => ((refine Sm.s9 ?_; (repeat (with_reducible first | refine sm_text (by assumption) ?_ | refine sm_u32 ?_ | refine sm_u64 ?_ | refine sm_num ?_ | refine sm_set ?_ | refine sm_bool ?_ | refine sm_row (by assumption) ?_)); exact Sm.le sm (by omega)))); intro v ha q; (try rw [q.1]); replace c := q.2; clear q) | ((with_reducible apply Cl.mono (truthWS c ?g0 ?g1)); (case g0 => (first | (rw [wSetC_get (by decide)]; rfl) | rfl)); (case g1 => ((refine Sm.s9 ?_; (repeat (with_reducible first | refine sm_text (by assumption) ?_ | refine sm_u32 ?_ | refine sm_u64 ?_ | refine sm_num ?_ | refine sm_set ?_ | refine sm_bool ?_ | refine sm_row (by assumption) ?_)); exact Sm.le sm (by omega)))); intro v ha q; (try rw [q.1]); replace c := q.2; clear q) | ((with_reducible apply Cl.mono (u32WS1 c ?g0 ?g1 ?g2)); (case g0 => (first | (rw [wSetC_get (by decide)]; rfl) | rfl)); (case g1 => (assumption)); (case g2 => ((refine Sm.s9 ?_; (repeat (with_reducible first | refine sm_text (by assumption) ?_ | refine sm_u32 ?_ | refine sm_u64 ?_ | refine sm_num ?_ | refine sm_set ?_ | refine sm_bool ?_ | refine sm_row (by assumption) ?_)); exact Sm.le sm (by omega)))); intro v ha q; (try rw [q.1]); replace c := q.2; clear q) | ((with_reducible apply Cl.mono (u64WS1 c ?g0 ?g1)); (case g0 => (first | (rw [wSetC_get (by decide)]; rfl) | rfl)); (case g1 => ((refine Sm.s9 ?_; (repeat (with_reducible first | refine sm_text (by assumption) ?_ | refine sm_u32 ?_ | refine sm_u64 ?_ | refine sm_num ?_ | refine sm_set ?_ | refine sm_bool ?_ | refine sm_row (by assumption) ?_)); exact Sm.le sm (by omega)))); intro v ha q; (try rw [q.1]); replace c := q.2; clear q) | ((with_reducible apply Cl.mono (u32WS2 c ?g0 ?g1 ?g2 ?g3 ?g4)); (case g0 => (first | (rw [wSetC_get (by decide)]; rfl) | rfl)); (case g1 => (assumption)); (case g2 => (first | (rw [wSetC_get (by decide)]; rfl) | rfl)); (case g3 => (assumption)); (case g4 => ((refine Sm.s9 ?_; (repeat (with_reducible first | refine sm_text (by assumption) ?_ | refine sm_u32 ?_ | refine sm_u64 ?_ | refine sm_num ?_ | refine sm_set ?_ | refine sm_bool ?_ | refine sm_row (by assumption) ?_)); exact Sm.le sm (by omega)))); intro v ha q; (try rw [q.1]); replace c := q.2; clear q) | ((with_reducible apply Cl.mono (u64WS2 c ?g0 ?g1 ?g2)); (case g0 => (first | (rw [wSetC_get (by decide)]; rfl) | rfl)); (case g1 => (first | (rw [wSetC_get (by decide)]; rfl) | rfl)); (case g2 => ((refine Sm.s9 ?_; (repeat (with_reducible first | refine sm_text (by assumption) ?_ | refine sm_u32 ?_ | refine sm_u64 ?_ | refine sm_num ?_ | refine sm_set ?_ | refine sm_bool ?_ | refine sm_row (by assumption) ?_)); exact Sm.le sm (by omega)))); intro v ha q; (try rw [q.1]); replace c := q.2; clear q) | ((with_reducible apply Cl.mono (timeWS c ?g0 ?g1 ?g2 ?g3 ?g4)); (case g0 => (first | (rw [wSetC_get (by decide)]; rfl) | rfl)); (case g1 => (assumption)); (case g2 => (first | (rw [wSetC_get (by decide)]; rfl) | rfl)); (case g3 => (assumption)); (case g4 => ((refine Sm.s9 ?_; (repeat (with_reducible first | refine sm_text (by assumption) ?_ | refine sm_u32 ?_ | refine sm_u64 ?_ | refine sm_num ?_ | refine sm_set ?_ | refine sm_bool ?_ | refine sm_row (by assumption) ?_)); exact Sm.le sm (by omega)))); intro v ha q; (try rw [q.1]); replace c := q.2; clear q) | ((with_reducible apply Cl.mono (setWS (s := a.set) hok.set c setHV ?g0)); (case g0 => ((refine Sm.s9 ?_; (repeat (with_reducible first | refine sm_text (by assumption) ?_ | refine sm_u32 ?_ | refine sm_u64 ?_ | refine sm_num ?_ | refine sm_set ?_ | refine sm_bool ?_ | refine sm_row (by assumption) ?_)); exact Sm.le sm (by omega)))); intro v ha q; (try rw [q.1]); replace c := q.2; clear q) | simp (disch := (first | (simp only [List.length_set, hl]; omega) | omega | rfl)) only [walkA, walkB, bne_self_eq_false, beq_self_eq_true, Option.map_some, Option.map_none, reduceIte, decide_true, decide_false, Int.reduceLT, Int.reduceLE, Int.reduceMul, Int.reduceAdd, Int.reduceSub, h0, h1, h2, faA0, faA1, faA2, faA3, faA4, faA5, faA6, faA7, faA8, faA9, faA10, faA11, faA12, faA13, faA14, faA15, faA16, faA17, faA18, faA19, faA20, faA21, bp32, bp64, bp32', bp64', c.ldI, aI25, aI26, aI27, wSetC_get , Int.reduceBEq, Int.reduceBNe, Int.reduceGT, Int.reduceGE, Nat.reduceAdd] | ((refine Wp.cond' ⟨_, by (simp (disch := (first | (simp only [List.length_set, hl]; omega) | omega | rfl)) only [sl_eq, sl_ne, aEval_tmp]; rfl), ?_, ?_⟩ <;> intro hb <;> (try simp only [beq_iff_eq, bne_iff_ne, ne_eq, decide_eq_true_eq, decide_eq_false_iff_not, beq_eq_false_iff_ne, bne_eq_false_iff_eq, Bool.not_eq_true', Bool.not_eq_false'] at hb) <;> (try (exfalso; omega)))))
  all_goals simp only [aRes_none Try.results59]
  all_goals (try simp only [true_and])
  all_goals refine CWE.of c ?_
  all_goals unfold wNamed
  all_goals repeat' (first | rfl | (exfalso; omega) | split)
def wArgs (p : Int) (a : AR) (x : WS) : WS :=
  if p = 0 ∨ p = 100 ∨ p = 102 ∨ p = 104 ∨ p = 105 then x
  else if p = 101 ∨ p = 103 then wText 1024 a.path x
  else if p = 2 then (if a.guard = true then wU32 a.g2 (wU32 a.g1 (wBool a.guard (wSet a.set (wText 64 a.file x)))) else wBool a.guard (wSet a.set (wText 64 a.file x)))
  else if p = 4 then wU32 a.access (wText 64 a.file x)
  else if p = 6 ∨ p = 21 then wU32 a.count (wU64 a.offset (wText 64 a.file x))
  else if p = 7 then wRow 8192 a.data (wNum 0 2 a.stable (wU32 a.count (wU64 a.offset (wText 64 a.file x))))
  else if p = 15 then wText 255 a.toName (wText 64 a.to (wText 64 a.file x))
  else if p = 16 then wU32 a.count (wU64 a.cookieVerf (wU64 a.cookie (wText 64 a.file x)))
  else if p = 17 then wU32 a.maxCount (wU32 a.dirCount (wU64 a.cookieVerf (wU64 a.cookie (wText 64 a.file x))))
  else if p = 3 ∨ (8 ≤ p ∧ p ≤ 14) then wNamed p a (wText 255 a.name (wText 64 a.file x))
  else wText 64 a.file x
theorem CWE.of' {y : WS} (c : CWE Z H0 h kc kw x kt T L) (e : y = x) : CWE Z H0 h kc kw y kt T L := by rw [e]; exact c
set_option maxHeartbeats 8000000 in
theorem argsW_am {n : Nat} (p : Int) (hp : there p = true) (hok : a.OK) (sm : Sm n x) (hn : n ≤ 10) (r : Row H0 a.dv a.data) (hz : ∀ b n c, a.dv = .slice (some b) n c → n ≠ 0 → Z b.block) (c : CWS Z H0 h kc kw x kt a.cells T L) :
    Cl Try.prog 22 [pt kc 0, .int .i64 p, pt kt 0] h fun v h' => v = .tuple #[] ∧ CWE Z H0 h' kc kw (wArgs p a x) kt T L := by
  refine Cl.enter Try.func22 rfl _ Try.ntmps22 (by simp) ?_
  intro env hl ha
  have h0 : sl env 0 = pt kc 0 := ha 0 (by simp)
  have h1 : sl env 1 = .int .i64 p := ha 1 (by simp)
  have h2 : sl env 2 = pt kt 0 := ha 2 (by simp)
  clear ha
  have ha_g1 := hok.g1
  have ha_g2 := hok.g2
  have ha_access := hok.access
  have ha_count := hok.count
  have ha_dirCount := hok.dirCount
  have ha_maxCount := hok.maxCount
  have ha_spec1 := hok.spec1
  have ha_spec2 := hok.spec2
  have ha_dSl := hok.dSl
  have ha_dOne := hok.dOne
  have hb_file := Nat.le_trans hok.file (show 30000 ≤ 40000 by decide)
  have hc_file := hok.file
  have hb_to := Nat.le_trans hok.to (show 30000 ≤ 40000 by decide)
  have hc_to := hok.to
  have hb_name := Nat.le_trans hok.name (show 30000 ≤ 40000 by decide)
  have hc_name := hok.name
  have hb_toName := Nat.le_trans hok.toName (show 30000 ≤ 40000 by decide)
  have hc_toName := hok.toName
  have hb_path := Nat.le_trans hok.path (show 30000 ≤ 40000 by decide)
  have hc_path := hok.path
  have hb_data := Nat.le_trans hok.data (show 30000 ≤ 40000 by decide)
  have hc_data := hok.data
  have hp := there_cases hp
  all_goals rcases hp with rfl | rfl | rfl | rfl | rfl | rfl | rfl | rfl | rfl | rfl | rfl | rfl | rfl | rfl | rfl | rfl | rfl | rfl | rfl | rfl | rfl | rfl | rfl | rfl | rfl | rfl | rfl | rfl
  all_goals repeat' (first | (with_reducible refine Wp.st ?_; simp only [wS]) | with_reducible refine Wp.drawS (by decide +kernel) ?_ | (refine Wp.cond_true ?_ ?_; focus ((simp (disch := (first | (simp only [List.length_set, hl]; omega) | omega | rfl)) only [sL, aEval_tmp]); done)) | (refine Wp.cond_false ?_ ?_; focus ((simp (disch := (first | (simp only [List.length_set, hl]; omega) | omega | rfl)) only [sL, aEval_tmp]); done)) | ((with_reducible apply Cl.mono (namedW_am (n := 12) _ ?g0 hok ?g1 (by decide) c)); (case g0 => (decide)); (case g1 => (((repeat (with_reducible first | refine sm_text (by assumption) ?_)); exact Sm.le sm hn))); intro v ha q; (try rw [q.1]); replace c := q.2; clear q) | ((with_reducible apply Cl.mono (rowWS (xs := a.data) c ?g0 ha_dSl r hz ha_dOne hb_data ?g1)); (case g0 => (first | (rw [wSetC_get (by decide)]; rfl) | rfl)); (case g1 => ((refine Sm.s9 ?_; (repeat (with_reducible first | refine sm_text (by assumption) ?_ | refine sm_u32 ?_ | refine sm_u64 ?_ | refine sm_num ?_ | refine sm_set ?_ | refine sm_bool ?_ | refine sm_row (by assumption) ?_)); exact Sm.le sm (by omega)))); intro v ha q; (try rw [q.1]); replace c := q.2; clear q) | ((with_reducible apply Cl.mono (textWS c ?g0 ?g1 ?g2)); (case g0 => (first | (rw [wSetC_get (by decide)]; rfl) | rfl)); (case g1 => (assumption)); (case g2 => ((refine Sm.s9 ?_; (repeat (with_reducible first | refine sm_text (by assumption) ?_ | refine sm_u32 ?_ | refine sm_u64 ?_ | refine sm_num ?_ | refine sm_set ?_ | refine sm_bool ?_ | refine sm_row (by assumption) ?_)); exact Sm.le sm (by omega)))); intro v ha q; (try rw [q.1]); replace c := q.2; clear q) | ((with_reducible apply Cl.mono (numWS c ?g0 ?g1)); (case g0 => (first | (rw [wSetC_get (by decide)]; rfl) | rfl)); (case g1 => ((refine Sm.s9 ?_; (repeat (with_reducible first | refine sm_text (by assumption) ?_ | refine sm_u32 ?_ | refine sm_u64 ?_ | refine sm_num ?_ | refine sm_set ?_ | refine sm_bool ?_ | refine sm_row (by assumption) ?_)); exact Sm.le sm (by omega)))); intro v ha q; (try rw [q.1]); replace c := q.2; clear q) | ((with_reducible apply Cl.mono (truthWS c ?g0 ?g1)); (case g0 => (first | (rw [wSetC_get (by decide)]; rfl) | rfl)); (case g1 => ((refine Sm.s9 ?_; (repeat (with_reducible first | refine sm_text (by assumption) ?_ | refine sm_u32 ?_ | refine sm_u64 ?_ | refine sm_num ?_ | refine sm_set ?_ | refine sm_bool ?_ | refine sm_row (by assumption) ?_)); exact Sm.le sm (by omega)))); intro v ha q; (try rw [q.1]); replace c := q.2; clear q) | ((with_reducible apply Cl.mono (u32WS1 c ?g0 ?g1 ?g2)); (case g0 => (first | (rw [wSetC_get (by decide)]; rfl) | rfl)); (case g1 => (assumption)); (case g2 => ((refine Sm.s9 ?_; (repeat (with_reducible first | refine sm_text (by assumption) ?_ | refine sm_u32 ?_ | refine sm_u64 ?_ | refine sm_num ?_ | refine sm_set ?_ | refine sm_bool ?_ | refine sm_row (by assumption) ?_)); exact Sm.le sm (by omega)))); intro v ha q; (try rw [q.1]); replace c := q.2; clear q) | ((with_reducible apply Cl.mono (u64WS1 c ?g0 ?g1)); (case g0 => (first | (rw [wSetC_get (by decide)]; rfl) | rfl)); (case g1 => ((refine Sm.s9 ?_; (repeat (with_reducible first | refine sm_text (by assumption) ?_ | refine sm_u32 ?_ | refine sm_u64 ?_ | refine sm_num ?_ | refine sm_set ?_ | refine sm_bool ?_ | refine sm_row (by assumption) ?_)); exact Sm.le sm (by omega)))); intro v ha q; (try rw [q.1]); replace c := q.2; clear q) | ((with_reducible apply Cl.mono (u32WS2 c ?g0 ?g1 ?g2 ?g3 ?g4)); (case g0 => (first | (rw [wSetC_get (by decide)]; rfl) | rfl)); (case g1 => (assumption)); (case g2 => (first | (rw [wSetC_get (by decide)]; rfl) | rfl)); (case g3 => (assumption)); (case g4 => ((refine Sm.s9 ?_; (repeat (with_reducible first | refine sm_text (by assumption) ?_ | refine sm_u32 ?_ | refine sm_u64 ?_ | refine sm_num ?_ | refine sm_set ?_ | refine sm_bool ?_ | refine sm_row (by assumption) ?_)); exact Sm.le sm (by omega)))); intro v ha q; (try rw [q.1]); replace c := q.2; clear q) | ((with_reducible apply Cl.mono (u64WS2 c ?g0 ?g1 ?g2)); (case g0 => (first | (rw [wSetC_get (by decide)]; rfl) | rfl)); (case g1 => (first | (rw [wSetC_get (by decide)]; rfl) | rfl)); (case g2 => ((refine Sm.s9 ?_; (repeat (with_reducible first | refine sm_text (by assumption) ?_ | refine sm_u32 ?_ | refine sm_u64 ?_ | refine sm_num ?_ | refine sm_set ?_ | refine sm_bool ?_ | refine sm_row (by assumption) ?_)); exact Sm.le sm (by omega)))); intro v ha q; (try rw [q.1]); replace c := q.2; clear q) | ((with_reducible apply Cl.mono (timeWS c ?g0 ?g1 ?g2 ?g3 ?g4)); (case g0 => (first | (rw [wSetC_get (by decide)]; rfl) | rfl)); (case g1 => (assumption)); (case g2 => (first | (rw [wSetC_get (by decide)]; rfl) | rfl)); (case g3 => (assumption)); (case g4 => ((refine Sm.s9 ?_; (repeat (with_reducible first | refine sm_text (by assumption) ?_ | refine sm_u32 ?_ | refine sm_u64 ?_ | refine sm_num ?_ | refine sm_set ?_ | refine sm_bool ?_ | refine sm_row (by assumption) ?_)); exact Sm.le sm (by omega)))); intro v ha q; (try rw [q.1]); replace c := q.2; clear q) | ((with_reducible apply Cl.mono (setWS (s := a.set) hok.set c setHV ?g0)); (case g0 => ((refine Sm.s9 ?_; (repeat (with_reducible first | refine sm_text (by assumption) ?_ | refine sm_u32 ?_ | refine sm_u64 ?_ | refine sm_num ?_ | refine sm_set ?_ | refine sm_bool ?_ | refine sm_row (by assumption) ?_)); exact Sm.le sm (by omega)))); intro v ha q; (try rw [q.1]); replace c := q.2; clear q) | simp (disch := (first | (simp only [List.length_set, hl]; omega) | omega | rfl)) only [walkA, walkB, bne_self_eq_false, beq_self_eq_true, Option.map_some, Option.map_none, reduceIte, decide_true, decide_false, Int.reduceLT, Int.reduceLE, Int.reduceMul, Int.reduceAdd, Int.reduceSub, h0, h1, h2, faA0, faA1, faA2, faA3, faA4, faA5, faA6, faA7, faA8, faA9, faA10, faA11, faA12, faA13, faA14, faA15, faA16, faA17, faA18, faA19, faA20, faA21, bp32, bp64, bp32', bp64', c.ldI, aI25, aI26, aI27, wSetC_get , Int.reduceBEq, Int.reduceBNe, Int.reduceGT, Int.reduceGE, Nat.reduceAdd] | ((refine Wp.cond' ⟨_, by (simp (disch := (first | (simp only [List.length_set, hl]; omega) | omega | rfl)) only [sl_eq, sl_ne, aEval_tmp]; rfl), ?_, ?_⟩ <;> intro hb <;> (try simp only [beq_iff_eq, bne_iff_ne, ne_eq, decide_eq_true_eq, decide_eq_false_iff_not, beq_eq_false_iff_ne, bne_eq_false_iff_eq, Bool.not_eq_true', Bool.not_eq_false'] at hb) <;> (try (exfalso; omega)))))
  all_goals simp only [aRes_none Try.results22]
  all_goals (try simp only [true_and])
  all_goals first | refine CWE.of c ?_ | refine CWE.of' c ?_
  all_goals unfold wArgs
  all_goals repeat' (first | rfl | (exfalso; first | omega | contradiction | (simp_all; done)) | split)
end
end Go.Proofs.Ytanknjpcgceccaa

namespace Go.Proofs.Ytanknjpcgceccaa
open Go Go.AM
set_option linter.unusedSimpArgs false
set_option maxRecDepth 100000
attribute [local irreducible] WOps WV WH WSt WNil WPick WGd
def wrArgs (p : Int) (a : AR) : List Value × Int :=
  if there p = true then (if (wArgs p a ⟨[], false⟩).bad = true then ([], 33) else ((wArgs p a ⟨[], false⟩).bs, 0)) else ([], 36)
def OutV (h h' : Heap) (bv : Value) (bs : List Value) : Prop := Buf h' 5 bv bs ∧ Same h h' noS ∧ (∀ j, bufBlk bv j → h.next ≤ j) ∧ bs.all Value.oneCell' = true
theorem AR.one (a : AR) (hok : a.OK) : a.cells.all Value.oneCell' = true := by
  obtain ⟨b, n, c, e⟩ := hok.dSl
  simp [AR.cells, SA.cells, Value.oneCell', e]
theorem bCoderW {a : Addr} : aBuild Try.prog 69 [(1, .pointer (some a))] = some (.agg #[.pointer none, .pointer (some a), .bool false]) := by kernel_rfl
theorem xCoderW {h : Heap} {a : Addr} : aBox h 69 (.agg #[.pointer none, .pointer (some a), .bool false]) = some (pt h.next 0, h.push (.cells [.pointer none, .pointer (some a), .bool false] TC false)) := by kernel_rfl
theorem nilBuf (j : Nat) : ¬ bufBlk (.slice none 0 0) j := by rintro ⟨o, m, d, hh⟩; cases hh
section
variable {Z : Nat → Prop} {H0 h : Heap} {L : List Blk}
theorem CWS.new {kt : Nat} {cs : List Value} {T : TypeId} (s : St Z H0 h ((kt, cs, T) :: L)) :
    CWS Z H0 ((h.push (.cells [.slice none 0 0] TWp false)).push (.cells [.pointer none, pt h.next 0, .bool false] TC false)) (h.push (.cells [.slice none 0 0] TWp false)).next h.next ⟨[], false⟩ kt cs T L :=
  ⟨.slice none 0 0, WB.alloc (⟨s.push _ _, .inl ⟨rfl, rfl⟩, fun j hj => (nilBuf j hj).elim, rfl⟩ : WB Z H0 _ h.next TWp (.slice none 0 0) [] ((kt, cs, T) :: L)) _ _⟩
end
theorem wNamed_sm {n : Nat} {p : Int} {a : AR} {x : WS} (hok : a.OK) (h : Sm n x) : Sm (n + 4) (wNamed p a x) := by
  have h1 := hok.path; have h2 := hok.to; have h3 := hok.toName
  unfold wNamed
  repeat' split
  all_goals (repeat (with_reducible first | exact h | refine sm_text (by assumption) ?_ | refine sm_row (by assumption) ?_ | refine sm_u32 ?_ | refine sm_u64 ?_ | refine sm_num ?_ | refine sm_bool ?_ | refine sm_set ?_))
  all_goals exact h.le (by omega)
theorem wArgs_sm {n : Nat} {p : Int} {a : AR} {x : WS} (hok : a.OK) (h : Sm n x) : Sm (n + 8) (wArgs p a x) := by
  have h1 := hok.path; have h2 := hok.to; have h3 := hok.toName; have h4 := hok.file; have h5 := hok.name; have h6 := hok.data
  unfold wArgs
  repeat' split
  all_goals (repeat (with_reducible first | exact h | refine wNamed_sm hok ?_ | refine sm_text (by assumption) ?_ | refine sm_row (by assumption) ?_ | refine sm_u32 ?_ | refine sm_u64 ?_ | refine sm_num ?_ | refine sm_bool ?_ | refine sm_set ?_))
  all_goals exact h.le (by omega)
theorem wArgs_len {n : Nat} {p : Int} {a : AR} {x : WS} (hok : a.OK) (h : Sm n x) : (wArgs p a x).bs.length ≤ (n + 8) * 31000 := wArgs_sm hok h
set_option maxHeartbeats 1000000 in
theorem writeArgs_am (p : Int) (a : AR) (hok : a.OK) (h : Heap) (r : Row h a.dv a.data) :
    Cl Try.prog 12 [.int .i64 p, .agg a.cells.toArray] h fun v h' => ∃ bv, v = .tuple #[bv, .int .i64 (wrArgs p a).2] ∧ OutV h h' bv (wrArgs p a).1 := by
  refine Cl.enter Try.func12 rfl _ Try.ntmps12 (by simp) ?_
  intro env hl ha
  have h0 : sl env 0 = .int .i64 p := ha 0 (by simp)
  have h1 : sl env 1 = .agg a.cells.toArray := ha 1 (by simp)
  clear ha
  have s0 := (St.nil (fun j => j < h.next) h (fun _ x => x)).push a.cells TA
  have xb : aBox h 30 (.agg a.cells.toArray) = some (pt h.next 0, h.push (.cells a.cells TA false)) := by
    have := a.one hok
    simp [aBox, aNew, Value.cells, this]
  have keep : ∀ {h5 : Heap} {L : List Blk}, St (fun j => j < h.next) h h5 L → Same h h5 noS := fun q => ⟨q.nx, fun j e he _ => q.stay j e he (Heap.get_lt he)⟩
  repeat (first | (with_reducible refine Wp.st ?_; simp only [wS]) | with_reducible refine Wp.drawS (by decide +kernel) ?_ | simp (disch := (first | (simp only [List.length_set, hl]; omega) | omega | rfl)) only [walkA, walkB, bne_self_eq_false, beq_self_eq_true, Option.map_some, Option.map_none, reduceIte, decide_true, decide_false, Int.reduceLT, Int.reduceLE, Int.reduceMul, Int.reduceAdd, Int.reduceSub, h0, h1, xb])
  refine Cl.pure (is_am p _) ?_
  cases hp : there p with
  | false =>
    have e : wrArgs p a = ([], 36) := by unfold wrArgs; rw [if_neg (by simp [hp])]
    repeat (first | (with_reducible refine Wp.st ?_; simp only [wS]) | with_reducible refine Wp.drawS (by decide +kernel) ?_ | simp (disch := (first | (simp only [List.length_set, hl]; omega) | omega | rfl)) only [walkA, walkB, bne_self_eq_false, beq_self_eq_true, Option.map_some, Option.map_none, reduceIte, decide_true, decide_false, Int.reduceLT, Int.reduceLE, Int.reduceMul, Int.reduceAdd, Int.reduceSub, h0, h1])
    refine Wp.cond_true (by first | ((simp (disch := (first | (simp only [List.length_set, hl]; omega) | omega | rfl)) only [sL, aEval_tmp]); done) | ((simp (disch := (first | (simp only [List.length_set, hl]; omega) | omega | rfl)) only [sL, aEval_tmp]); rfl)) ?_
    repeat (first | (with_reducible refine Wp.st ?_; simp only [wS]) | with_reducible refine Wp.drawS (by decide +kernel) ?_ | simp (disch := (first | (simp only [List.length_set, hl]; omega) | omega | rfl)) only [walkA, walkB, bne_self_eq_false, beq_self_eq_true, Option.map_some, Option.map_none, reduceIte, decide_true, decide_false, Int.reduceLT, Int.reduceLE, Int.reduceMul, Int.reduceAdd, Int.reduceSub, h0, h1])
    simp (disch := (first | (simp only [List.length_set, hl]; omega) | omega | rfl)) only [aRes_two Try.results12, sL]
    rw [e]
    exact ⟨_, rfl, .inl ⟨rfl, rfl⟩, keep s0, fun j hj => (nilBuf j hj).elim, rfl⟩
  | true =>
    have e : wrArgs p a = if (wArgs p a ⟨[], false⟩).bad = true then ([], 33) else ((wArgs p a ⟨[], false⟩).bs, 0) := by unfold wrArgs; rw [if_pos hp]
    have c := CWS.new s0
    generalize h.push (.cells a.cells TA false) = h2 at c
    repeat (first | (with_reducible refine Wp.st ?_; simp only [wS]) | with_reducible refine Wp.drawS (by decide +kernel) ?_ | simp (disch := (first | (simp only [List.length_set, hl]; omega) | omega | rfl)) only [walkA, walkB, bne_self_eq_false, beq_self_eq_true, Option.map_some, Option.map_none, reduceIte, decide_true, decide_false, Int.reduceLT, Int.reduceLE, Int.reduceMul, Int.reduceAdd, Int.reduceSub, h0, h1])
    refine Wp.cond_false (by first | ((simp (disch := (first | (simp only [List.length_set, hl]; omega) | omega | rfl)) only [sL, aEval_tmp]); done) | ((simp (disch := (first | (simp only [List.length_set, hl]; omega) | omega | rfl)) only [sL, aEval_tmp]); rfl)) ?_
    repeat (first | (with_reducible refine Wp.st ?_; simp only [wS]) | with_reducible refine Wp.drawS (by decide +kernel) ?_ | simp (disch := (first | (simp only [List.length_set, hl]; omega) | omega | rfl)) only [walkA, walkB, bne_self_eq_false, beq_self_eq_true, Option.map_some, Option.map_none, reduceIte, decide_true, decide_false, Int.reduceLT, Int.reduceLE, Int.reduceMul, Int.reduceAdd, Int.reduceSub, h0, h1])
    refine (newWriter_am _).mono ?_
    intro v h3 q
    rw [q.1, q.2]
    clear q
    have xc := xCoderW (h := h2.push (.cells [.slice none 0 0] TWp false)) (a := ⟨h2.next, 0, none⟩)
    repeat (first | (with_reducible refine Wp.st ?_; simp only [wS]) | with_reducible refine Wp.drawS (by decide +kernel) ?_ | simp (disch := (first | (simp only [List.length_set, hl]; omega) | omega | rfl)) only [walkA, walkB, bne_self_eq_false, beq_self_eq_true, Option.map_some, Option.map_none, reduceIte, decide_true, decide_false, Int.reduceLT, Int.reduceLE, Int.reduceMul, Int.reduceAdd, Int.reduceSub, h0, h1, bCoderW, xc])
    refine (argsW_am (n := 0) p hp hok (by unfold Sm; simp) (by decide) r (fun b n d e hn => row_lt r b n d e hn) c).mono ?_
    intro v h4 q
    rw [q.1]
    obtain ⟨cs', wv, c4⟩ := q.2
    clear q
    have lb := c4.lb
    have lw := c4.lw
    have k4 := keep c4.st
    rw [e]
    cases hb : (wArgs p a ⟨[], false⟩).bad with
    | true =>
      rw [hb] at lb
      repeat (first | (with_reducible refine Wp.st ?_; simp only [wS]) | with_reducible refine Wp.drawS (by decide +kernel) ?_ | simp (disch := (first | (simp only [List.length_set, hl]; omega) | omega | rfl)) only [walkA, walkB, bne_self_eq_false, beq_self_eq_true, Option.map_some, Option.map_none, reduceIte, decide_true, decide_false, Int.reduceLT, Int.reduceLE, Int.reduceMul, Int.reduceAdd, Int.reduceSub, h0, h1, faC2, lb])
      refine Wp.cond_true (by first | ((simp (disch := (first | (simp only [List.length_set, hl]; omega) | omega | rfl)) only [sL, aEval_tmp]); done) | ((simp (disch := (first | (simp only [List.length_set, hl]; omega) | omega | rfl)) only [sL, aEval_tmp]); rfl)) ?_
      repeat (first | (with_reducible refine Wp.st ?_; simp only [wS]) | with_reducible refine Wp.drawS (by decide +kernel) ?_ | simp (disch := (first | (simp only [List.length_set, hl]; omega) | omega | rfl)) only [walkA, walkB, bne_self_eq_false, beq_self_eq_true, Option.map_some, Option.map_none, reduceIte, decide_true, decide_false, Int.reduceLT, Int.reduceLE, Int.reduceMul, Int.reduceAdd, Int.reduceSub, h0, h1])
      simp (disch := (first | (simp only [List.length_set, hl]; omega) | omega | rfl)) only [aRes_two Try.results12, sL]
      exact ⟨_, rfl, .inl ⟨rfl, rfl⟩, k4, fun j hj => (nilBuf j hj).elim, rfl⟩
    | false =>
      rw [hb] at lb
      repeat (first | (with_reducible refine Wp.st ?_; simp only [wS]) | with_reducible refine Wp.drawS (by decide +kernel) ?_ | simp (disch := (first | (simp only [List.length_set, hl]; omega) | omega | rfl)) only [walkA, walkB, bne_self_eq_false, beq_self_eq_true, Option.map_some, Option.map_none, reduceIte, decide_true, decide_false, Int.reduceLT, Int.reduceLE, Int.reduceMul, Int.reduceAdd, Int.reduceSub, h0, h1, faC2, lb])
      refine Wp.cond_false (by first | ((simp (disch := (first | (simp only [List.length_set, hl]; omega) | omega | rfl)) only [sL, aEval_tmp]); done) | ((simp (disch := (first | (simp only [List.length_set, hl]; omega) | omega | rfl)) only [sL, aEval_tmp]); rfl)) ?_
      repeat (first | (with_reducible refine Wp.st ?_; simp only [wS]) | with_reducible refine Wp.drawS (by decide +kernel) ?_ | simp (disch := (first | (simp only [List.length_set, hl]; omega) | omega | rfl)) only [walkA, walkB, bne_self_eq_false, beq_self_eq_true, Option.map_some, Option.map_none, reduceIte, decide_true, decide_false, Int.reduceLT, Int.reduceLE, Int.reduceMul, Int.reduceAdd, Int.reduceSub, h0, h1, faC1, lw])
      refine (done_am _ _ _ _ c4.wr c4.one (by have := wArgs_len (p := p) (a := a) (x := ⟨[], false⟩) hok (n := 0) (by unfold Sm; simp); omega)).mono ?_
      intro v h5 q
      repeat (first | (with_reducible refine Wp.st ?_; simp only [wS]) | with_reducible refine Wp.drawS (by decide +kernel) ?_ | simp (disch := (first | (simp only [List.length_set, hl]; omega) | omega | rfl)) only [walkA, walkB, bne_self_eq_false, beq_self_eq_true, Option.map_some, Option.map_none, reduceIte, decide_true, decide_false, Int.reduceLT, Int.reduceLE, Int.reduceMul, Int.reduceAdd, Int.reduceSub, h0, h1])
      simp (disch := (first | (simp only [List.length_set, hl]; omega) | omega | rfl)) only [aRes_two Try.results12, sL]
      exact ⟨_, rfl, q.1, k4.trans q.2.1 (fun _ x => x) (fun _ _ x => x), fun j hj => Nat.le_trans k4.1 (q.2.2 j hj), c4.one⟩
end Go.Proofs.Ytanknjpcgceccaa

namespace Go.Proofs.Ytanknjpcgceccaa
open Go Go.AM Go.RowKit Go.ChangeShapes
set_option linter.unusedSimpArgs false
set_option maxRecDepth 100000
theorem own_knob : ownKnob Try.prog.godebug = none := by kernel_rfl
theorem laid_out : laidOutB Try.prog = true := by kernel_rfl
theorem good : AM.Good Try.prog := AM.Good.of (by kernel_rfl)
theorem wf_u32 {x : Int} (h : (Lit.int .u32 x).wf = true) : u32r x := by
  simp [Lit.wf, IntKind.min, IntKind.max, IntKind.bits, IntKind.signed] at h
  unfold u32r; omega
theorem wf_u8 {x : Int} (h : (Lit.int .u8 x).wf = true) : 0 ≤ x ∧ x < 256 := by
  simp [Lit.wf, IntKind.min, IntKind.max, IntKind.bits, IntKind.signed] at h
  omega
theorem strOf (xs : List Int) (h : ∀ x ∈ xs, 0 ≤ x ∧ x < 256) : ∃ s : ByteArray, xs.map (Value.int .u8) = strB s := by
  refine ⟨⟨(xs.map fun x => UInt8.ofNat x.toNat).toArray⟩, ?_⟩
  unfold strB
  simp only [List.map_map]
  refine List.map_congr_left fun x hx => ?_
  have := h x hx
  simp only [Function.comp]
  congr 1
  have e : (UInt8.ofNat x.toNat).toNat = x.toNat := by
    rw [UInt8.toNat_ofNat']; omega
  rw [e]; omega
structure AR.WF (a : AR) : Prop where
  set : a.set.OK
  g1 : u32r a.g1
  g2 : u32r a.g2
  access : u32r a.access
  count : u32r a.count
  dirCount : u32r a.dirCount
  maxCount : u32r a.maxCount
  spec1 : u32r a.spec1
  spec2 : u32r a.spec2
  dSl : ∃ b n c, a.dv = .slice b n c
  dStr : ∃ s, a.data = strB s
structure AR.Modest (a : AR) : Prop where
  file : a.file.size ≤ 1048576
  to : a.to.size ≤ 1048576
  name : a.name.size ≤ 1048576
  toName : a.toName.size ≤ 1048576
  path : a.path.size ≤ 1048576
  data : a.data.length ≤ 1048576
theorem len_succ {α : Type} {l : List α} {n : Nat} (h : l.length = n + 1) : ∃ a t, l = a :: t ∧ t.length = n := by
  match l, h with
  | a :: t, h => exact ⟨a, t, rfl, by simpa using h⟩
section
variable {H : Type} {h : Heap}
theorem ard_str {P : Program} {n : Nat} {t : TypeId} {cs : List Value} {d : DataW H} (hu : P.underlying t = some .string) (r : ARd P h (n + 1) t cs d) : ∃ s, cs = [.string s] ∧ s.size ≤ Rows.uptoBulk d := by
  unfold ARd at r
  rw [hu] at r
  obtain ⟨s, a, _, e⟩ := r
  refine ⟨s, a, ?_⟩
  rw [e]
  show s.data.size ≤ s.data.toList.length + 1
  simp
theorem bulk_pos (d : DataW H) : 1 ≤ Rows.uptoBulk d := by
  cases d with
  | lit l => cases l <;> simp [Rows.uptoBulk]
  | _ => simp [Rows.uptoBulk]
theorem bulk_len : ∀ l : List (DataW H), l.length ≤ Rows.uptoBulkAll l
  | [] => by simp
  | d :: l => by
    have := bulk_pos d
    have := bulk_len l
    simp only [List.length_cons, Rows.uptoBulkAll]; omega
theorem row_len {v : Value} {vs : List Value} (r : Row h v vs) : ∃ a c, v = .slice a vs.length c := by
  rcases r with ⟨rfl, rfl⟩ | ⟨rfl, k, off, c, rfl⟩ | ⟨k, off, cap, cs, hl, ro, rfl, _⟩
  · exact ⟨_, _, rfl⟩
  · exact ⟨_, _, rfl⟩
  · exact ⟨_, _, rfl⟩
theorem ard_bulk {P : Program} {n m c : Nat} {t e : TypeId} {a : Option Addr} {d : DataW H} (hu : P.underlying t = some (.slice e)) (r : ARd P h (n + 1) t [.slice a m c] d) : m ≤ Rows.uptoBulk d := by
  unfold ARd at r
  rw [hu] at r
  rcases r with ⟨e1, _⟩ | ⟨sp, e1, _⟩ | ⟨k, cap, cells, hl, es, sp, e1, _, _, _, e2, _⟩
  · injection e1 with e1; injection e1 with _ e1; omega
  · injection e1 with e1; unfold slE at e1; injection e1 with _ e1; omega
  · injection e1 with e1; injection e1 with _ e1
    have := bulk_len es
    rw [e2]
    simp only [Rows.uptoBulk]; omega
theorem ard_row {n : Nat} {cs : List Value} {d : DataW H} (r : ARd Try.prog h (n + 2) 22 cs d) : ∃ (v : Value) (s : ByteArray), cs = [v] ∧ Row h v (strB s) ∧ inH h v ∧ (∃ a n c, v = .slice a n c) ∧ (strB s).length ≤ Rows.uptoBulk d := by
  have k5 : Try.prog.cellsOf 5 = 1 := by kernel_rfl
  obtain ⟨v, xs, e, h1, h2, h3, h4⟩ := ard_ints Try.underlying22 Try.underlying5 k5 r
  obtain ⟨s, hs⟩ := strOf xs (fun x hx => wf_u8 (h4 x hx))
  rw [hs] at h1
  refine ⟨v, s, e, h1, h2, h3, ?_⟩
  obtain ⟨a, c, hv⟩ := row_len h1
  rw [e, hv] at r
  exact ard_bulk Try.underlying22 r
set_option maxHeartbeats 2000000 in
theorem ard_time {n : Nat} {cs : List Value} {d : DataW H} (r : ARd Try.prog h (n + 2) 26 cs d) : ∃ a b, cs = [.int .u32 a, .int .u32 b] ∧ u32r a ∧ u32r b := by
  unfold ARd at r
  rw [Try.underlying26] at r
  obtain ⟨ds, hag, hl, hd, hf⟩ := r
  have cz : Try.prog.cellsOf 26 = 2 := by kernel_rfl
  rw [cz] at hl
  have hdn : ds.length = 2 := hd
  obtain ⟨c0, tc0, rfl, hl_0⟩ := len_succ hl
  obtain ⟨c1, tc1, rfl, hl_1⟩ := len_succ hl_0
  obtain rfl := List.eq_nil_of_length_eq_zero hl_1
  obtain ⟨d0, td0, rfl, hdn_0⟩ := len_succ hdn
  obtain ⟨d1, td1, rfl, hdn_1⟩ := len_succ hdn_0
  obtain rfl := List.eq_nil_of_length_eq_zero hdn_1
  · skip
    · skip
      have z_u32 : Try.prog.cellsOf 23 = 1 := by kernel_rfl
      have f0 : ARd Try.prog h (n + 1) 23 (([c0, c1].drop 0).take (Try.prog.cellsOf 23)) d0 := hf 0 _ d0 rfl rfl
      rw [z_u32] at f0
      have f1 : ARd Try.prog h (n + 1) 23 (([c0, c1].drop 1).take (Try.prog.cellsOf 23)) d1 := hf 1 _ d1 rfl rfl
      rw [z_u32] at f1
      obtain ⟨x0, e0, w0⟩ := ard_int Try.underlying23 f0
      injection e0 with e0
      subst e0
      replace w0 := wf_u32 w0
      obtain ⟨x1, e1, w1⟩ := ard_int Try.underlying23 f1
      injection e1 with e1
      subst e1
      replace w1 := wf_u32 w1
      exact ⟨x0, x1, rfl, w0, w1⟩
set_option maxHeartbeats 2000000 in
theorem ard_sattr {n : Nat} {cs : List Value} {d : DataW H} (r : ARd Try.prog h (n + 3) 28 cs d) : ∃ s : SA, cs = s.cells ∧ s.OK := by
  unfold ARd at r
  rw [Try.underlying28] at r
  obtain ⟨ds, hag, hl, hd, hf⟩ := r
  have cz : Try.prog.cellsOf 28 = 14 := by kernel_rfl
  rw [cz] at hl
  have hdn : ds.length = 12 := hd
  obtain ⟨c0, tc0, rfl, hl_0⟩ := len_succ hl
  obtain ⟨c1, tc1, rfl, hl_1⟩ := len_succ hl_0
  obtain ⟨c2, tc2, rfl, hl_2⟩ := len_succ hl_1
  obtain ⟨c3, tc3, rfl, hl_3⟩ := len_succ hl_2
  obtain ⟨c4, tc4, rfl, hl_4⟩ := len_succ hl_3
  obtain ⟨c5, tc5, rfl, hl_5⟩ := len_succ hl_4
  obtain ⟨c6, tc6, rfl, hl_6⟩ := len_succ hl_5
  obtain ⟨c7, tc7, rfl, hl_7⟩ := len_succ hl_6
  obtain ⟨c8, tc8, rfl, hl_8⟩ := len_succ hl_7
  obtain ⟨c9, tc9, rfl, hl_9⟩ := len_succ hl_8
  obtain ⟨c10, tc10, rfl, hl_10⟩ := len_succ hl_9
  obtain ⟨c11, tc11, rfl, hl_11⟩ := len_succ hl_10
  obtain ⟨c12, tc12, rfl, hl_12⟩ := len_succ hl_11
  obtain ⟨c13, tc13, rfl, hl_13⟩ := len_succ hl_12
  obtain rfl := List.eq_nil_of_length_eq_zero hl_13
  obtain ⟨d0, td0, rfl, hdn_0⟩ := len_succ hdn
  obtain ⟨d1, td1, rfl, hdn_1⟩ := len_succ hdn_0
  obtain ⟨d2, td2, rfl, hdn_2⟩ := len_succ hdn_1
  obtain ⟨d3, td3, rfl, hdn_3⟩ := len_succ hdn_2
  obtain ⟨d4, td4, rfl, hdn_4⟩ := len_succ hdn_3
  obtain ⟨d5, td5, rfl, hdn_5⟩ := len_succ hdn_4
  obtain ⟨d6, td6, rfl, hdn_6⟩ := len_succ hdn_5
  obtain ⟨d7, td7, rfl, hdn_7⟩ := len_succ hdn_6
  obtain ⟨d8, td8, rfl, hdn_8⟩ := len_succ hdn_7
  obtain ⟨d9, td9, rfl, hdn_9⟩ := len_succ hdn_8
  obtain ⟨d10, td10, rfl, hdn_10⟩ := len_succ hdn_9
  obtain ⟨d11, td11, rfl, hdn_11⟩ := len_succ hdn_10
  obtain rfl := List.eq_nil_of_length_eq_zero hdn_11
  · skip
    · skip
      have z_bool : Try.prog.cellsOf 4 = 1 := by kernel_rfl
      have z_int : Try.prog.cellsOf 3 = 1 := by kernel_rfl
      have z_time : Try.prog.cellsOf 26 = 2 := by kernel_rfl
      have z_u32 : Try.prog.cellsOf 23 = 1 := by kernel_rfl
      have z_u64 : Try.prog.cellsOf 24 = 1 := by kernel_rfl
      have f0 : ARd Try.prog h (n + 2) 4 (([c0, c1, c2, c3, c4, c5, c6, c7, c8, c9, c10, c11, c12, c13].drop 0).take (Try.prog.cellsOf 4)) d0 := hf 0 _ d0 rfl rfl
      rw [z_bool] at f0
      have f1 : ARd Try.prog h (n + 2) 4 (([c0, c1, c2, c3, c4, c5, c6, c7, c8, c9, c10, c11, c12, c13].drop 1).take (Try.prog.cellsOf 4)) d1 := hf 1 _ d1 rfl rfl
      rw [z_bool] at f1
      have f2 : ARd Try.prog h (n + 2) 4 (([c0, c1, c2, c3, c4, c5, c6, c7, c8, c9, c10, c11, c12, c13].drop 2).take (Try.prog.cellsOf 4)) d2 := hf 2 _ d2 rfl rfl
      rw [z_bool] at f2
      have f3 : ARd Try.prog h (n + 2) 4 (([c0, c1, c2, c3, c4, c5, c6, c7, c8, c9, c10, c11, c12, c13].drop 3).take (Try.prog.cellsOf 4)) d3 := hf 3 _ d3 rfl rfl
      rw [z_bool] at f3
      have f4 : ARd Try.prog h (n + 2) 3 (([c0, c1, c2, c3, c4, c5, c6, c7, c8, c9, c10, c11, c12, c13].drop 4).take (Try.prog.cellsOf 3)) d4 := hf 4 _ d4 rfl rfl
      rw [z_int] at f4
      have f5 : ARd Try.prog h (n + 2) 23 (([c0, c1, c2, c3, c4, c5, c6, c7, c8, c9, c10, c11, c12, c13].drop 5).take (Try.prog.cellsOf 23)) d5 := hf 5 _ d5 rfl rfl
      rw [z_u32] at f5
      have f6 : ARd Try.prog h (n + 2) 23 (([c0, c1, c2, c3, c4, c5, c6, c7, c8, c9, c10, c11, c12, c13].drop 6).take (Try.prog.cellsOf 23)) d6 := hf 6 _ d6 rfl rfl
      rw [z_u32] at f6
      have f7 : ARd Try.prog h (n + 2) 24 (([c0, c1, c2, c3, c4, c5, c6, c7, c8, c9, c10, c11, c12, c13].drop 7).take (Try.prog.cellsOf 24)) d7 := hf 7 _ d7 rfl rfl
      rw [z_u64] at f7
      have f8 : ARd Try.prog h (n + 2) 3 (([c0, c1, c2, c3, c4, c5, c6, c7, c8, c9, c10, c11, c12, c13].drop 8).take (Try.prog.cellsOf 3)) d8 := hf 8 _ d8 rfl rfl
      rw [z_int] at f8
      have f9 : ARd Try.prog h (n + 2) 3 (([c0, c1, c2, c3, c4, c5, c6, c7, c8, c9, c10, c11, c12, c13].drop 9).take (Try.prog.cellsOf 3)) d9 := hf 9 _ d9 rfl rfl
      rw [z_int] at f9
      have f10 : ARd Try.prog h (n + 2) 26 (([c0, c1, c2, c3, c4, c5, c6, c7, c8, c9, c10, c11, c12, c13].drop 10).take (Try.prog.cellsOf 26)) d10 := hf 10 _ d10 rfl rfl
      rw [z_time] at f10
      have f11 : ARd Try.prog h (n + 2) 26 (([c0, c1, c2, c3, c4, c5, c6, c7, c8, c9, c10, c11, c12, c13].drop 12).take (Try.prog.cellsOf 26)) d11 := hf 11 _ d11 rfl rfl
      rw [z_time] at f11
      obtain ⟨x0, e0⟩ := ard_bool Try.underlying4 f0
      injection e0 with e0
      subst e0
      obtain ⟨x1, e1⟩ := ard_bool Try.underlying4 f1
      injection e1 with e1
      subst e1
      obtain ⟨x2, e2⟩ := ard_bool Try.underlying4 f2
      injection e2 with e2
      subst e2
      obtain ⟨x3, e3⟩ := ard_bool Try.underlying4 f3
      injection e3 with e3
      subst e3
      obtain ⟨x4, e4, w4⟩ := ard_int Try.underlying3 f4
      injection e4 with e4
      subst e4
      obtain ⟨x5, e5, w5⟩ := ard_int Try.underlying23 f5
      injection e5 with e5
      subst e5
      replace w5 := wf_u32 w5
      obtain ⟨x6, e6, w6⟩ := ard_int Try.underlying23 f6
      injection e6 with e6
      subst e6
      replace w6 := wf_u32 w6
      obtain ⟨x7, e7, w7⟩ := ard_int Try.underlying24 f7
      injection e7 with e7
      subst e7
      obtain ⟨x8, e8, w8⟩ := ard_int Try.underlying3 f8
      injection e8 with e8
      subst e8
      obtain ⟨x9, e9, w9⟩ := ard_int Try.underlying3 f9
      injection e9 with e9
      subst e9
      obtain ⟨x10, y10, e10, w10, u10⟩ := ard_time f10
      have e10' : [c10, c11] = _ := e10
      injection e10' with p10 q10
      injection q10 with q10
      subst p10
      subst q10
      obtain ⟨x11, y11, e11, w11, u11⟩ := ard_time f11
      have e11' : [c12, c13] = _ := e11
      injection e11' with p11 q11
      injection q11 with q11
      subst p11
      subst q11
      exact ⟨⟨x0, x1, x2, x3, x4, x5, x6, x7, x8, x9, x10, y10, x11, y11⟩, rfl, w5, w6, w10, u10, w11, u11⟩
set_option maxHeartbeats 2000000 in
theorem ard_args {n : Nat} {cs : List Value} {d : DataW H} (r : ARd Try.prog h (n + 4) 30 cs d) : ∃ a : AR, cs = a.cells ∧ a.WF ∧ Row h a.dv a.data ∧ inH h a.dv ∧ (Rows.uptoBulk d ≤ 1048576 → a.Modest) := by
  unfold ARd at r
  rw [Try.underlying30] at r
  obtain ⟨ds, hag, hl, hd, hf⟩ := r
  have cz : Try.prog.cellsOf 30 = 36 := by kernel_rfl
  rw [cz] at hl
  have hdn : ds.length = 22 := hd
  obtain ⟨c0, tc0, rfl, hl_0⟩ := len_succ hl
  obtain ⟨c1, tc1, rfl, hl_1⟩ := len_succ hl_0
  obtain ⟨c2, tc2, rfl, hl_2⟩ := len_succ hl_1
  obtain ⟨c3, tc3, rfl, hl_3⟩ := len_succ hl_2
  obtain ⟨c4, tc4, rfl, hl_4⟩ := len_succ hl_3
  obtain ⟨c5, tc5, rfl, hl_5⟩ := len_succ hl_4
  obtain ⟨c6, tc6, rfl, hl_6⟩ := len_succ hl_5
  obtain ⟨c7, tc7, rfl, hl_7⟩ := len_succ hl_6
  obtain ⟨c8, tc8, rfl, hl_8⟩ := len_succ hl_7
  obtain ⟨c9, tc9, rfl, hl_9⟩ := len_succ hl_8
  obtain ⟨c10, tc10, rfl, hl_10⟩ := len_succ hl_9
  obtain ⟨c11, tc11, rfl, hl_11⟩ := len_succ hl_10
  obtain ⟨c12, tc12, rfl, hl_12⟩ := len_succ hl_11
  obtain ⟨c13, tc13, rfl, hl_13⟩ := len_succ hl_12
  obtain ⟨c14, tc14, rfl, hl_14⟩ := len_succ hl_13
  obtain ⟨c15, tc15, rfl, hl_15⟩ := len_succ hl_14
  obtain ⟨c16, tc16, rfl, hl_16⟩ := len_succ hl_15
  obtain ⟨c17, tc17, rfl, hl_17⟩ := len_succ hl_16
  obtain ⟨c18, tc18, rfl, hl_18⟩ := len_succ hl_17
  obtain ⟨c19, tc19, rfl, hl_19⟩ := len_succ hl_18
  obtain ⟨c20, tc20, rfl, hl_20⟩ := len_succ hl_19
  obtain ⟨c21, tc21, rfl, hl_21⟩ := len_succ hl_20
  obtain ⟨c22, tc22, rfl, hl_22⟩ := len_succ hl_21
  obtain ⟨c23, tc23, rfl, hl_23⟩ := len_succ hl_22
  obtain ⟨c24, tc24, rfl, hl_24⟩ := len_succ hl_23
  obtain ⟨c25, tc25, rfl, hl_25⟩ := len_succ hl_24
  obtain ⟨c26, tc26, rfl, hl_26⟩ := len_succ hl_25
  obtain ⟨c27, tc27, rfl, hl_27⟩ := len_succ hl_26
  obtain ⟨c28, tc28, rfl, hl_28⟩ := len_succ hl_27
  obtain ⟨c29, tc29, rfl, hl_29⟩ := len_succ hl_28
  obtain ⟨c30, tc30, rfl, hl_30⟩ := len_succ hl_29
  obtain ⟨c31, tc31, rfl, hl_31⟩ := len_succ hl_30
  obtain ⟨c32, tc32, rfl, hl_32⟩ := len_succ hl_31
  obtain ⟨c33, tc33, rfl, hl_33⟩ := len_succ hl_32
  obtain ⟨c34, tc34, rfl, hl_34⟩ := len_succ hl_33
  obtain ⟨c35, tc35, rfl, hl_35⟩ := len_succ hl_34
  obtain rfl := List.eq_nil_of_length_eq_zero hl_35
  obtain ⟨d0, td0, rfl, hdn_0⟩ := len_succ hdn
  obtain ⟨d1, td1, rfl, hdn_1⟩ := len_succ hdn_0
  obtain ⟨d2, td2, rfl, hdn_2⟩ := len_succ hdn_1
  obtain ⟨d3, td3, rfl, hdn_3⟩ := len_succ hdn_2
  obtain ⟨d4, td4, rfl, hdn_4⟩ := len_succ hdn_3
  obtain ⟨d5, td5, rfl, hdn_5⟩ := len_succ hdn_4
  obtain ⟨d6, td6, rfl, hdn_6⟩ := len_succ hdn_5
  obtain ⟨d7, td7, rfl, hdn_7⟩ := len_succ hdn_6
  obtain ⟨d8, td8, rfl, hdn_8⟩ := len_succ hdn_7
  obtain ⟨d9, td9, rfl, hdn_9⟩ := len_succ hdn_8
  obtain ⟨d10, td10, rfl, hdn_10⟩ := len_succ hdn_9
  obtain ⟨d11, td11, rfl, hdn_11⟩ := len_succ hdn_10
  obtain ⟨d12, td12, rfl, hdn_12⟩ := len_succ hdn_11
  obtain ⟨d13, td13, rfl, hdn_13⟩ := len_succ hdn_12
  obtain ⟨d14, td14, rfl, hdn_14⟩ := len_succ hdn_13
  obtain ⟨d15, td15, rfl, hdn_15⟩ := len_succ hdn_14
  obtain ⟨d16, td16, rfl, hdn_16⟩ := len_succ hdn_15
  obtain ⟨d17, td17, rfl, hdn_17⟩ := len_succ hdn_16
  obtain ⟨d18, td18, rfl, hdn_18⟩ := len_succ hdn_17
  obtain ⟨d19, td19, rfl, hdn_19⟩ := len_succ hdn_18
  obtain ⟨d20, td20, rfl, hdn_20⟩ := len_succ hdn_19
  obtain ⟨d21, td21, rfl, hdn_21⟩ := len_succ hdn_20
  obtain rfl := List.eq_nil_of_length_eq_zero hdn_21
  · skip
    · skip
      have z_bool : Try.prog.cellsOf 4 = 1 := by kernel_rfl
      have z_int : Try.prog.cellsOf 3 = 1 := by kernel_rfl
      have z_row : Try.prog.cellsOf 22 = 1 := by kernel_rfl
      have z_sattr : Try.prog.cellsOf 28 = 14 := by kernel_rfl
      have z_str : Try.prog.cellsOf 9 = 1 := by kernel_rfl
      have z_time : Try.prog.cellsOf 26 = 2 := by kernel_rfl
      have z_u32 : Try.prog.cellsOf 23 = 1 := by kernel_rfl
      have z_u64 : Try.prog.cellsOf 24 = 1 := by kernel_rfl
      have f0 : ARd Try.prog h (n + 3) 9 (([c0, c1, c2, c3, c4, c5, c6, c7, c8, c9, c10, c11, c12, c13, c14, c15, c16, c17, c18, c19, c20, c21, c22, c23, c24, c25, c26, c27, c28, c29, c30, c31, c32, c33, c34, c35].drop 0).take (Try.prog.cellsOf 9)) d0 := hf 0 _ d0 rfl rfl
      rw [z_str] at f0
      have f1 : ARd Try.prog h (n + 3) 9 (([c0, c1, c2, c3, c4, c5, c6, c7, c8, c9, c10, c11, c12, c13, c14, c15, c16, c17, c18, c19, c20, c21, c22, c23, c24, c25, c26, c27, c28, c29, c30, c31, c32, c33, c34, c35].drop 1).take (Try.prog.cellsOf 9)) d1 := hf 1 _ d1 rfl rfl
      rw [z_str] at f1
      have f2 : ARd Try.prog h (n + 3) 9 (([c0, c1, c2, c3, c4, c5, c6, c7, c8, c9, c10, c11, c12, c13, c14, c15, c16, c17, c18, c19, c20, c21, c22, c23, c24, c25, c26, c27, c28, c29, c30, c31, c32, c33, c34, c35].drop 2).take (Try.prog.cellsOf 9)) d2 := hf 2 _ d2 rfl rfl
      rw [z_str] at f2
      have f3 : ARd Try.prog h (n + 3) 9 (([c0, c1, c2, c3, c4, c5, c6, c7, c8, c9, c10, c11, c12, c13, c14, c15, c16, c17, c18, c19, c20, c21, c22, c23, c24, c25, c26, c27, c28, c29, c30, c31, c32, c33, c34, c35].drop 3).take (Try.prog.cellsOf 9)) d3 := hf 3 _ d3 rfl rfl
      rw [z_str] at f3
      have f4 : ARd Try.prog h (n + 3) 9 (([c0, c1, c2, c3, c4, c5, c6, c7, c8, c9, c10, c11, c12, c13, c14, c15, c16, c17, c18, c19, c20, c21, c22, c23, c24, c25, c26, c27, c28, c29, c30, c31, c32, c33, c34, c35].drop 4).take (Try.prog.cellsOf 9)) d4 := hf 4 _ d4 rfl rfl
      rw [z_str] at f4
      have f5 : ARd Try.prog h (n + 3) 28 (([c0, c1, c2, c3, c4, c5, c6, c7, c8, c9, c10, c11, c12, c13, c14, c15, c16, c17, c18, c19, c20, c21, c22, c23, c24, c25, c26, c27, c28, c29, c30, c31, c32, c33, c34, c35].drop 5).take (Try.prog.cellsOf 28)) d5 := hf 5 _ d5 rfl rfl
      rw [z_sattr] at f5
      have f6 : ARd Try.prog h (n + 3) 4 (([c0, c1, c2, c3, c4, c5, c6, c7, c8, c9, c10, c11, c12, c13, c14, c15, c16, c17, c18, c19, c20, c21, c22, c23, c24, c25, c26, c27, c28, c29, c30, c31, c32, c33, c34, c35].drop 19).take (Try.prog.cellsOf 4)) d6 := hf 6 _ d6 rfl rfl
      rw [z_bool] at f6
      have f7 : ARd Try.prog h (n + 3) 26 (([c0, c1, c2, c3, c4, c5, c6, c7, c8, c9, c10, c11, c12, c13, c14, c15, c16, c17, c18, c19, c20, c21, c22, c23, c24, c25, c26, c27, c28, c29, c30, c31, c32, c33, c34, c35].drop 20).take (Try.prog.cellsOf 26)) d7 := hf 7 _ d7 rfl rfl
      rw [z_time] at f7
      have f8 : ARd Try.prog h (n + 3) 23 (([c0, c1, c2, c3, c4, c5, c6, c7, c8, c9, c10, c11, c12, c13, c14, c15, c16, c17, c18, c19, c20, c21, c22, c23, c24, c25, c26, c27, c28, c29, c30, c31, c32, c33, c34, c35].drop 22).take (Try.prog.cellsOf 23)) d8 := hf 8 _ d8 rfl rfl
      rw [z_u32] at f8
      have f9 : ARd Try.prog h (n + 3) 24 (([c0, c1, c2, c3, c4, c5, c6, c7, c8, c9, c10, c11, c12, c13, c14, c15, c16, c17, c18, c19, c20, c21, c22, c23, c24, c25, c26, c27, c28, c29, c30, c31, c32, c33, c34, c35].drop 23).take (Try.prog.cellsOf 24)) d9 := hf 9 _ d9 rfl rfl
      rw [z_u64] at f9
      have f10 : ARd Try.prog h (n + 3) 23 (([c0, c1, c2, c3, c4, c5, c6, c7, c8, c9, c10, c11, c12, c13, c14, c15, c16, c17, c18, c19, c20, c21, c22, c23, c24, c25, c26, c27, c28, c29, c30, c31, c32, c33, c34, c35].drop 24).take (Try.prog.cellsOf 23)) d10 := hf 10 _ d10 rfl rfl
      rw [z_u32] at f10
      have f11 : ARd Try.prog h (n + 3) 3 (([c0, c1, c2, c3, c4, c5, c6, c7, c8, c9, c10, c11, c12, c13, c14, c15, c16, c17, c18, c19, c20, c21, c22, c23, c24, c25, c26, c27, c28, c29, c30, c31, c32, c33, c34, c35].drop 25).take (Try.prog.cellsOf 3)) d11 := hf 11 _ d11 rfl rfl
      rw [z_int] at f11
      have f12 : ARd Try.prog h (n + 3) 3 (([c0, c1, c2, c3, c4, c5, c6, c7, c8, c9, c10, c11, c12, c13, c14, c15, c16, c17, c18, c19, c20, c21, c22, c23, c24, c25, c26, c27, c28, c29, c30, c31, c32, c33, c34, c35].drop 26).take (Try.prog.cellsOf 3)) d12 := hf 12 _ d12 rfl rfl
      rw [z_int] at f12
      have f13 : ARd Try.prog h (n + 3) 3 (([c0, c1, c2, c3, c4, c5, c6, c7, c8, c9, c10, c11, c12, c13, c14, c15, c16, c17, c18, c19, c20, c21, c22, c23, c24, c25, c26, c27, c28, c29, c30, c31, c32, c33, c34, c35].drop 27).take (Try.prog.cellsOf 3)) d13 := hf 13 _ d13 rfl rfl
      rw [z_int] at f13
      have f14 : ARd Try.prog h (n + 3) 22 (([c0, c1, c2, c3, c4, c5, c6, c7, c8, c9, c10, c11, c12, c13, c14, c15, c16, c17, c18, c19, c20, c21, c22, c23, c24, c25, c26, c27, c28, c29, c30, c31, c32, c33, c34, c35].drop 28).take (Try.prog.cellsOf 22)) d14 := hf 14 _ d14 rfl rfl
      rw [z_row] at f14
      have f15 : ARd Try.prog h (n + 3) 24 (([c0, c1, c2, c3, c4, c5, c6, c7, c8, c9, c10, c11, c12, c13, c14, c15, c16, c17, c18, c19, c20, c21, c22, c23, c24, c25, c26, c27, c28, c29, c30, c31, c32, c33, c34, c35].drop 29).take (Try.prog.cellsOf 24)) d15 := hf 15 _ d15 rfl rfl
      rw [z_u64] at f15
      have f16 : ARd Try.prog h (n + 3) 24 (([c0, c1, c2, c3, c4, c5, c6, c7, c8, c9, c10, c11, c12, c13, c14, c15, c16, c17, c18, c19, c20, c21, c22, c23, c24, c25, c26, c27, c28, c29, c30, c31, c32, c33, c34, c35].drop 30).take (Try.prog.cellsOf 24)) d16 := hf 16 _ d16 rfl rfl
      rw [z_u64] at f16
      have f17 : ARd Try.prog h (n + 3) 24 (([c0, c1, c2, c3, c4, c5, c6, c7, c8, c9, c10, c11, c12, c13, c14, c15, c16, c17, c18, c19, c20, c21, c22, c23, c24, c25, c26, c27, c28, c29, c30, c31, c32, c33, c34, c35].drop 31).take (Try.prog.cellsOf 24)) d17 := hf 17 _ d17 rfl rfl
      rw [z_u64] at f17
      have f18 : ARd Try.prog h (n + 3) 23 (([c0, c1, c2, c3, c4, c5, c6, c7, c8, c9, c10, c11, c12, c13, c14, c15, c16, c17, c18, c19, c20, c21, c22, c23, c24, c25, c26, c27, c28, c29, c30, c31, c32, c33, c34, c35].drop 32).take (Try.prog.cellsOf 23)) d18 := hf 18 _ d18 rfl rfl
      rw [z_u32] at f18
      have f19 : ARd Try.prog h (n + 3) 23 (([c0, c1, c2, c3, c4, c5, c6, c7, c8, c9, c10, c11, c12, c13, c14, c15, c16, c17, c18, c19, c20, c21, c22, c23, c24, c25, c26, c27, c28, c29, c30, c31, c32, c33, c34, c35].drop 33).take (Try.prog.cellsOf 23)) d19 := hf 19 _ d19 rfl rfl
      rw [z_u32] at f19
      have f20 : ARd Try.prog h (n + 3) 23 (([c0, c1, c2, c3, c4, c5, c6, c7, c8, c9, c10, c11, c12, c13, c14, c15, c16, c17, c18, c19, c20, c21, c22, c23, c24, c25, c26, c27, c28, c29, c30, c31, c32, c33, c34, c35].drop 34).take (Try.prog.cellsOf 23)) d20 := hf 20 _ d20 rfl rfl
      rw [z_u32] at f20
      have f21 : ARd Try.prog h (n + 3) 23 (([c0, c1, c2, c3, c4, c5, c6, c7, c8, c9, c10, c11, c12, c13, c14, c15, c16, c17, c18, c19, c20, c21, c22, c23, c24, c25, c26, c27, c28, c29, c30, c31, c32, c33, c34, c35].drop 35).take (Try.prog.cellsOf 23)) d21 := hf 21 _ d21 rfl rfl
      rw [z_u32] at f21
      obtain ⟨x0, e0, b0⟩ := ard_str Try.underlying9 f0
      injection e0 with e0
      subst e0
      obtain ⟨x1, e1, b1⟩ := ard_str Try.underlying9 f1
      injection e1 with e1
      subst e1
      obtain ⟨x2, e2, b2⟩ := ard_str Try.underlying9 f2
      injection e2 with e2
      subst e2
      obtain ⟨x3, e3, b3⟩ := ard_str Try.underlying9 f3
      injection e3 with e3
      subst e3
      obtain ⟨x4, e4, b4⟩ := ard_str Try.underlying9 f4
      injection e4 with e4
      subst e4
      obtain ⟨x5, e5, w5⟩ := ard_sattr f5
      have e5' : [c5, c6, c7, c8, c9, c10, c11, c12, c13, c14, c15, c16, c17, c18] = x5.cells := e5
      simp only [SA.cells, List.cons.injEq, and_true] at e5'
      obtain ⟨g5_0, g5_1, g5_2, g5_3, g5_4, g5_5, g5_6, g5_7, g5_8, g5_9, g5_10, g5_11, g5_12, g5_13⟩ := e5'
      subst g5_0
      subst g5_1
      subst g5_2
      subst g5_3
      subst g5_4
      subst g5_5
      subst g5_6
      subst g5_7
      subst g5_8
      subst g5_9
      subst g5_10
      subst g5_11
      subst g5_12
      subst g5_13
      obtain ⟨x6, e6⟩ := ard_bool Try.underlying4 f6
      injection e6 with e6
      subst e6
      obtain ⟨x7, y7, e7, w7, u7⟩ := ard_time f7
      have e7' : [c20, c21] = _ := e7
      injection e7' with p7 q7
      injection q7 with q7
      subst p7
      subst q7
      obtain ⟨x8, e8, w8⟩ := ard_int Try.underlying23 f8
      injection e8 with e8
      subst e8
      replace w8 := wf_u32 w8
      obtain ⟨x9, e9, w9⟩ := ard_int Try.underlying24 f9
      injection e9 with e9
      subst e9
      obtain ⟨x10, e10, w10⟩ := ard_int Try.underlying23 f10
      injection e10 with e10
      subst e10
      replace w10 := wf_u32 w10
      obtain ⟨x11, e11, w11⟩ := ard_int Try.underlying3 f11
      injection e11 with e11
      subst e11
      obtain ⟨x12, e12, w12⟩ := ard_int Try.underlying3 f12
      injection e12 with e12
      subst e12
      obtain ⟨x13, e13, w13⟩ := ard_int Try.underlying3 f13
      injection e13 with e13
      subst e13
      obtain ⟨v14, y14, e14, r14, i14, s14, b14⟩ := ard_row f14
      injection e14 with e14
      subst e14
      obtain ⟨x15, e15, w15⟩ := ard_int Try.underlying24 f15
      injection e15 with e15
      subst e15
      obtain ⟨x16, e16, w16⟩ := ard_int Try.underlying24 f16
      injection e16 with e16
      subst e16
      obtain ⟨x17, e17, w17⟩ := ard_int Try.underlying24 f17
      injection e17 with e17
      subst e17
      obtain ⟨x18, e18, w18⟩ := ard_int Try.underlying23 f18
      injection e18 with e18
      subst e18
      replace w18 := wf_u32 w18
      obtain ⟨x19, e19, w19⟩ := ard_int Try.underlying23 f19
      injection e19 with e19
      subst e19
      replace w19 := wf_u32 w19
      obtain ⟨x20, e20, w20⟩ := ard_int Try.underlying23 f20
      injection e20 with e20
      subst e20
      replace w20 := wf_u32 w20
      obtain ⟨x21, e21, w21⟩ := ard_int Try.underlying23 f21
      injection e21 with e21
      subst e21
      replace w21 := wf_u32 w21
      refine ⟨⟨x0, x1, x2, x3, x4, x5, x6, x7, y7, x8, x9, x10, x11, x12, x13, c28, strB y14, x15, x16, x17, x18, x19, x20, x21⟩, rfl, ⟨w5, w7, u7, w8, w10, w18, w19, w20, w21, s14, y14, rfl⟩, r14, i14, fun hb => ?_⟩
      rw [hag] at hb
      simp only [Rows.uptoBulk, Rows.uptoBulkAll] at hb
      refine ⟨?_, ?_, ?_, ?_, ?_, ?_⟩ <;> dsimp only <;> omega
end
theorem AR.WF.ok {a : AR} (w : a.WF) (h1 : a.file.size + a.to.size + a.name.size + a.toName.size + a.path.size + a.data.length < 30000) : a.OK :=
  ⟨w.set, w.g1, w.g2, w.access, w.count, w.dirCount, w.maxCount, w.spec1, w.spec2, by omega, by omega, by omega, by omega, by omega, by omega, by obtain ⟨s, e⟩ := w.dStr; rw [e]; exact strB_one s, w.dSl⟩
end Go.Proofs.Ytanknjpcgceccaa
