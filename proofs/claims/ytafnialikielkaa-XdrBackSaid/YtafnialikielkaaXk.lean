/- The statement XdrWrites: whatever the items, what the program's writer writes of them, one by one, is what the document's writer writes; the law returns true and its argument reads as it did. Without conditions. -/
import Derived.Test.YtafnialikielkaaXj
import Derived.Test.YtafnialikielkaaAm18
namespace Go.Proofs.Ytafnialikielkaa
open Go Go.AM Go.RowKit Go.ChangeShapes
set_option linter.unusedSimpArgs false

theorem own_knob : ownKnob Try.prog.godebug = none := by kernel_rfl
theorem laid_out : laidOutB Try.prog = true := by kernel_rfl
theorem good : AM.Good Try.prog := AM.Good.of (by kernel_rfl) (by kernel_rfl)

theorem isB_map (xs : List Int) : isB (xs.map (Value.int .u8)) := by
  induction xs with
  | nil => exact isB.nil
  | cons x xs ih => exact isB.cons ih

section
variable {H : Type} {h : Heap}

/-- An item as it comes in. -/
theorem ard_item {n : Nat} {cs : List Value} {d : DataW H} (r : ARd Try.prog h (n + 3) 32 cs d) : ∃ i : It, cs = i.cells ∧ i.ok h := by
  unfold ARd at r
  rw [Try.underlying32] at r
  obtain ⟨ds, _, hl, hd, hf⟩ := r
  have c5 : Try.prog.cellsOf 32 = 5 := by kernel_rfl
  rw [c5] at hl
  have hd5 : ds.length = 5 := hd
  match cs, hl with
  | [c0, c1, c2, c3, c4], _ =>
    match ds, hd5 with
    | [d0, d1, d2, d3, d4], _ =>
      have k3 : Try.prog.cellsOf 3 = 1 := by kernel_rfl
      have k30 : Try.prog.cellsOf 30 = 1 := by kernel_rfl
      have k4 : Try.prog.cellsOf 4 = 1 := by kernel_rfl
      have k27 : Try.prog.cellsOf 27 = 1 := by kernel_rfl
      have k5 : Try.prog.cellsOf 5 = 1 := by kernel_rfl
      have f0 : ARd Try.prog h (n + 2) 3 (([c0, c1, c2, c3, c4].drop 0).take (Try.prog.cellsOf 3)) d0 := hf 0 _ d0 rfl rfl
      have f1 : ARd Try.prog h (n + 2) 3 (([c0, c1, c2, c3, c4].drop 1).take (Try.prog.cellsOf 3)) d1 := hf 1 _ d1 rfl rfl
      have f2 : ARd Try.prog h (n + 2) 30 (([c0, c1, c2, c3, c4].drop 2).take (Try.prog.cellsOf 30)) d2 := hf 2 _ d2 rfl rfl
      have f3 : ARd Try.prog h (n + 2) 4 (([c0, c1, c2, c3, c4].drop 3).take (Try.prog.cellsOf 4)) d3 := hf 3 _ d3 rfl rfl
      have f4 : ARd Try.prog h (n + 2) 27 (([c0, c1, c2, c3, c4].drop 4).take (Try.prog.cellsOf 27)) d4 := hf 4 _ d4 rfl rfl
      rw [k3] at f0 f1
      rw [k30] at f2
      rw [k4] at f3
      rw [k27] at f4
      obtain ⟨x0, e0, _⟩ := ard_int Try.underlying3 f0
      obtain ⟨x1, e1, _⟩ := ard_int Try.underlying3 f1
      obtain ⟨x2, e2, _⟩ := ard_int Try.underlying30 f2
      obtain ⟨x3, e3⟩ := ard_bool Try.underlying4 f3
      obtain ⟨v, xs, e4, h1, h2, h3, _⟩ := ard_ints Try.underlying27 Try.underlying5 k5 f4
      injection e0 with e0; injection e1 with e1; injection e2 with e2; injection e3 with e3; injection e4 with e4
      subst e0; subst e1; subst e2; subst e3; subst e4
      exact ⟨⟨x0, x1, x2, x3, c4, xs.map (Value.int .u8)⟩, rfl, h1, isB_map xs, h3, h2⟩

theorem ard_items {n : Nat} {cs : List Value} {d : DataW H} (r : ARd Try.prog h (n + 4) 22 cs d) : ∃ (v : Value) (its : List It), cs = [v] ∧ RowS h 5 v (its.map It.cells) ∧ inH h v ∧ ∀ i ∈ its, i.ok h := by
  obtain ⟨v, rows, h1, h2, h3, _, h5⟩ := ard_slice Try.underlying22 r
  have c5 : Try.prog.cellsOf 32 = 5 := by kernel_rfl
  rw [c5] at h2
  obtain ⟨its, rfl, hi⟩ := list_lift It.cells (fun i => i.ok h) rows (fun r hr => by
    obtain ⟨_, di, hd⟩ := h5 r hr
    exact ard_item hd)
  exact ⟨v, its, h1, h2, h3, hi⟩
end

theorem xdrWrites_lifted (os : Os) (started : os.Started) (H : Type) (enc : TypeId × Value → H) :
    ReturnsInHanded {} Try.checked os 3 .any (Rows.xdrWritesSpec.pre6 enc Try.prog Try.f3 Rows.xdrWritesRow.domain false) (Rows.xdrWritesSpec.post enc Try.prog Try.f3 false true false false) := by
  refine returnsInHanded_of_change (C := Try.checked) own_knob started (by kernel_rfl) Try.func3
    (ChangeSpec.witness6 (enc := enc) (C := Try.checked) false ⟨#[], #[.slice none 0 0], []⟩ 8 (by kernel_rfl) (by kernel_rfl) (by kernel_rfl) (by kernel_rfl)) ?_
  intro W base args ds gs before hval hW _ _
  have hd1 : ∃ d, ds = [d] := by
    obtain ⟨p, q, hA0, _⟩ := hW
    have hA : DataW.TrodAll enc Try.prog W 0 (fun _ => true) true Try.f3.params.toList args.toList ds p := hA0
    rw [Try.params3] at hA
    obtain ⟨v, d, _, h2, _⟩ := trodAll_one hA
    exact ⟨d, h2⟩
  obtain ⟨d, rfl⟩ := hd1
  refine law_true (P := Try.prog) (n := 6) (tb := 4) good laid_out rfl (base := base) hval hW rfl ?_ rfl Try.underlying4 rfl ?_
  · intro t ht
    rw [Try.params3] at ht
    have : t = 22 := by simpa using ht
    subst this
    exact ⟨by kernel_rfl, by kernel_rfl, of_decide_eq_true (by kernel_rfl)⟩
  · intro h av hl hr hag
    rw [Try.params3] at hl hr hag
    match av, hl with
    | [a], _ =>
      have r0 := hr 0 _ a d rfl rfl rfl
      obtain ⟨v, its, e, h1, _, h3⟩ := ard_items r0
      have : a = v := one_of e Try.underlying22 (by simp) (by simp) (fun c hc => hag 0 _ c rfl (by rw [hc]; rfl))
      subst this
      exact (xdrWrites_am a its h h1 h3).mono fun v h' q => q.1

theorem xdrWrites_holds : Rows.XdrWritesSaid :=
  OpenClaim.holds_of_wide 3 Try.f3 rfl rfl rfl rfl rfl rfl rfl ⟨rfl, rfl, rfl, rfl, rfl⟩ rfl rfl rfl rfl rfl (by kernel_rfl) Try.func3 (by kernel_rfl)
    (of_decide_eq_true (by kernel_rfl)) (by unfold Func.isWrapper; first | (rw [if_pos (by decide +kernel)]; kernel_rfl) | (rw [if_neg (by decide +kernel)]; exact ⟨rfl, rfl⟩))
    (fun os started H enc _ => xdrWrites_lifted os started H enc)

end Go.Proofs.Ytafnialikielkaa
