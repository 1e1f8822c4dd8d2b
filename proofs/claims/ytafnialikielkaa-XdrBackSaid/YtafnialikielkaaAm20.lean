/- The abstract machine, part 20: drawn regions whose readers are bound to whatever acts: they walk as others do. -/
import Derived.Test.YtafnialikielkaaAm19
namespace Go.AM
open Go

/-- Each reader stands in a fixed order to each operation that acts. -/
def statRd (P : Program) (ops : Array Oper) : Bool :=
  let b := befs ops.toList []
  let l := ops.toList
  let go := fun (i : Nat) (oi : Oper) => (bif isReader oi.op && !(isEff P oi.op) then
      (List.range l.length).all fun q => match l[q]? with
        | none => true
        | some oq => bif isEff P oq.op then (bif Nat.blt i q then (b.getD q 0).testBit i else bif Nat.blt q i then (b.getD i 0).testBit q else true) else true
    else true)
  (List.range l.length).all fun i => match l[i]? with
    | none => true
    | some oi => go i oi

section
variable {P : Program} {ops : Array Oper}

theorem WDraw.of {Q : List Value → Heap → Prop} : ∀ (l : List Oper) (acc : List Rec) (env : List Value) (h : Heap), WOps P ops Q l env h → WDraw P ops (fun recs e h' => recs.map (·.o) = acc.reverse.map (·.o) ++ l ∧ Q e h') l acc env h
  | [], acc, env, h, hw => ⟨by simp, hw⟩
  | o :: l, acc, env, h, hw => by
    have step : ∀ (r : Rec) (e : List Value) (h' : Heap), r.o = o → WOps P ops Q l e h' → WDraw P ops (fun recs e h' => recs.map (·.o) = acc.reverse.map (·.o) ++ o :: l ∧ Q e h') l (r :: acc) e h' := fun r e h' hr hw => by
      have := WDraw.of l (r :: acc) e h' hw
      simpa [hr] using this
    unfold WOps at hw
    unfold WDraw
    cases hg : aWanted ops o env with
    | true =>
      rw [hg, cond_true] at hw
      rw [cond_true]
      split at hw
      · rename_i g args hc
        exact hw.mono fun v h' hq => step _ _ _ rfl hq
      · rename_i hc
        try simp only [hc]
        split at hw
        · rename_i v h' ha
          try simp only [ha]
          exact step _ _ _ rfl hw
        · exact hw.elim
    | false =>
      rw [hg, cond_false] at hw
      rw [cond_false]
      exact step _ _ _ rfl hw

theorem readOK_of (b : List Nat) (i : Nat) (r : Rec) : ∀ (l : List Rec) (q0 : Nat), (∀ q rq, l[q]? = some rq → isEff P rq.o.op = true → (i < q0 + q → (b.getD (q0 + q) 0).testBit i = true) ∧ (q0 + q < i → (b.getD i 0).testBit (q0 + q) = true)) → readOK P b i r l q0 = true
  | [], _, _ => rfl
  | rq :: l, q0, h => by
    have h0 := h 0 rq rfl
    have ih := readOK_of b i r l (q0 + 1) (fun q rq' hq he => by
      have := h (q + 1) rq' (by simpa using hq) he
      rw [show q0 + 1 + q = q0 + (q + 1) by omega]
      exact this)
    unfold readOK
    rw [ih, Bool.and_true]
    cases he : isEff P rq.o.op with
    | false => rfl
    | true =>
      obtain ⟨a, c⟩ := h0 he
      rw [Nat.add_zero] at a c
      rw [cond_true]
      by_cases h1 : i < q0
      · rw [blt_true h1, cond_true, a h1]; rfl
      · rw [blt_false (by omega), cond_false]
        by_cases h2 : q0 < i
        · rw [blt_true h2, cond_true, c h2]; rfl
        · rw [blt_false (by omega)]; rfl

theorem readsOK_of (b : List Nat) (all : List Rec) : ∀ (l : List Rec) (i0 : Nat), (∀ i r, l[i]? = some r → isReader r.o.op = true → isEff P r.o.op = false → ∀ q rq, all[q]? = some rq → isEff P rq.o.op = true → (i0 + i < q → (b.getD q 0).testBit (i0 + i) = true) ∧ (q < i0 + i → (b.getD (i0 + i) 0).testBit q = true)) → readsOK P b all l i0 = true
  | [], _, _ => rfl
  | r :: l, i0, h => by
    have ih := readsOK_of b all l (i0 + 1) (fun i r' hr hi he q rq hq hqe => by
      have := h (i + 1) r' (by simpa using hr) hi he q rq hq hqe
      rw [show i0 + 1 + i = i0 + (i + 1) by omega]
      exact this)
    unfold readsOK
    rw [ih, Bool.and_true]
    cases hc : (r.w && isReader r.o.op && !(isEff P r.o.op)) with
    | false => rfl
    | true =>
      simp only [Bool.and_eq_true, Bool.not_eq_true'] at hc
      rw [cond_true]
      refine readOK_of b i0 r all 0 (fun q rq hq hqe => ?_)
      have := h 0 r rfl hc.1.2 hc.2 q rq hq hqe
      rw [Nat.add_zero] at this
      rw [Nat.zero_add]
      exact this

theorem readsOK_stat (hs : statRd P ops = true) (recs : List Rec) (hr : recs.map (·.o) = ops.toList) : readsOK P (befs ops.toList []) recs recs 0 = true := by
  refine readsOK_of _ _ recs 0 (fun i r hi h1 h2 q rq hq h3 => ?_)
  have oi : ops.toList[i]? = some r.o := by rw [← hr, List.getElem?_map, hi]; rfl
  have oq : ops.toList[q]? = some rq.o := by rw [← hr, List.getElem?_map, hq]; rfl
  have li : i < ops.toList.length := (List.getElem?_eq_some_iff.1 oi).1
  have lq : q < ops.toList.length := (List.getElem?_eq_some_iff.1 oq).1
  have a := List.all_eq_true.1 hs i (List.mem_range.2 li)
  simp only [oi, h1, h2, Bool.not_false, Bool.and_self, cond_true] at a
  have b := List.all_eq_true.1 a q (List.mem_range.2 lq)
  simp only [oq, h3, cond_true] at b
  rw [Nat.zero_add]
  refine ⟨fun h => ?_, fun h => ?_⟩
  · rwa [blt_true h, cond_true] at b
  · rwa [blt_false (by omega), cond_false, blt_true h, cond_true] at b

/-- A drawn region of which the readers are bound walks in the text's order. -/
theorem Wp.drawS {id : Nat} {Q : AX → List Value → Heap → Prop} {env : List Value} {h : Heap} (hs : statRd P ops = true) (hw : WOps P ops (Q .normal) ops.toList env h) : Wp P (.region id ops true) Q env h := by
  refine Wp.draw'' fun b hb => ?_
  have := WDraw.of ops.toList [] env h hw
  have mono : ∀ (l : List Oper) (acc : List Rec) (env : List Value) (h : Heap) (Q1 Q2 : List Rec → List Value → Heap → Prop), (∀ r e h, Q1 r e h → Q2 r e h) → WDraw P ops Q1 l acc env h → WDraw P ops Q2 l acc env h := by
    intro l
    induction l with
    | nil => exact fun acc env h Q1 Q2 hq hw => hq _ _ _ hw
    | cons o l ih =>
      intro acc env h Q1 Q2 hq hw
      unfold WDraw at hw ⊢
      cases hg : aWanted ops o env with
      | true =>
        rw [hg, _root_.cond_true] at hw
        rw [_root_.cond_true]
        split at hw
        · rename_i g args hc
          try simp only [hc]
          exact hw.mono fun v h' => ih _ _ _ _ _ hq
        · rename_i hc
          try simp only [hc]
          split at hw
          · rename_i v h' ha
            try simp only [ha]
            exact ih _ _ _ _ _ hq hw
          · exact hw.elim
      | false =>
        rw [hg, _root_.cond_false] at hw
        rw [_root_.cond_false]
        exact ih _ _ _ _ _ hq hw
  refine mono _ _ _ _ _ _ (fun r e h' hq => ?_) this
  obtain ⟨h1, h2⟩ := hq
  subst hb
  exact ⟨readsOK_stat hs r (by simpa using h1), h2⟩
end
end Go.AM
namespace Go.AM
open Go
/-! ### cells that are read and written, one at a time -/
theorem setL_one (cs : List Value) (off : Nat) (x : Value) : setL cs off [x] = cs.set off x := (rfl)

section
variable {P : Program} {h : Heap} {k off : Nat} {cs : List Value} {el : TypeId}

theorem aLoad_at {t : TypeId} {d : TypeDesc} {ro : Bool} (hu : P.underlying t = some d) (h1 : ∀ fs, d ≠ .struct fs) (h2 : ∀ n e, d ≠ .array n e) (hg : h.get k = some (.cells cs el ro)) (off : Nat) : aLoad P h t (.pointer (some ⟨k, off, none⟩)) = cs[off]? := by
  rw [aLoad_one hu h1 h2, rd1, hg]

theorem aStore_at {t : TypeId} {i : TypeInfo} {x : Value} (hi : P.info? t = some i) (hs : i.size = 1) (hg : h.get k = some (.cells cs el false)) (off : Nat) (ho : off < cs.length) (hx : x.cells = #[x]) (h1 : x.oneCell' = true) :
    aStore P h t (.pointer (some ⟨k, off, none⟩)) x = some (h.set k (.cells (cs.set off x) el false)) := by
  have e2 : Nat.ble (off + 1) cs.length = true := ble_iff.2 (by omega)
  simp [aStore, hi, hs, wrN, hg, hx, h1, e2, setL_one]
end

/-- The one block that a call may write. -/
def onlyS (k : Nat) : Nat → Prop := fun j => j = k
theorem Same.set1 (h : Heap) (k : Nat) (e : Ent) : Same h (h.set k e) (onlyS k) := Same.set h k e rfl
theorem Same.then {h h1 h2 : Heap} {S : Nat → Prop} (a : Same h h1 S) (b : Same h1 h2 S) : Same h h2 S := a.trans b (fun _ x => x) (fun _ _ x => x)
theorem Same.none {h h1 : Heap} {S : Nat → Prop} (a : Same h h1 noS) : Same h h1 S := a.mono (fun _ x => x.elim)
end Go.AM
