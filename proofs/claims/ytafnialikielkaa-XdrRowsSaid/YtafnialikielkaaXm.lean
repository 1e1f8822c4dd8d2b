/- The statement XdrRows: whatever the rows, what the program's writer writes of several elements in one call is what the document's writer writes one by one; the law returns true and its arguments read as they did. Without conditions. -/
import Derived.Test.YtafnialikielkaaXk
import Derived.Test.YtafnialikielkaaXl
namespace Go.Proofs.Ytafnialikielkaa
open Go Go.AM Go.RowKit Go.ChangeShapes
set_option linter.unusedSimpArgs false

theorem wf_u32 {x : Int} (h : (Lit.int .u32 x).wf = true) : 0 ≤ x ∧ x < 4294967296 := by
  simp [Lit.wf, IntKind.min, IntKind.max, IntKind.bits, IntKind.signed] at h
  omega

section
variable {H : Type} {h : Heap}
theorem ard_pieces {n : Nat} {cs : List Value} {d : DataW H} (r : ARd Try.prog h (n + 3) 39 cs d) :
    ∃ (v : Value) (ps : List (Value × List Value)), cs = [v] ∧ Row h v (ps.map (·.1)) ∧ inH h v ∧ ∀ p ∈ ps, Row h p.1 p.2 ∧ inH h p.1 ∧ isB p.2 ∧ ∃ a n c, p.1 = .slice a n c := by
  obtain ⟨v, rows, h1, h2, h3, _, h5⟩ := ard_slice Try.underlying39 r
  have c1 : Try.prog.cellsOf 27 = 1 := by kernel_rfl
  have k5 : Try.prog.cellsOf 5 = 1 := by kernel_rfl
  rw [c1] at h2
  obtain ⟨ps, rfl, hp⟩ := list_lift (fun p : Value × List Value => [p.1]) (fun p => Row h p.1 p.2 ∧ inH h p.1 ∧ isB p.2 ∧ ∃ a n c, p.1 = .slice a n c) rows (fun r hr => by
    obtain ⟨_, di, hd⟩ := h5 r hr
    obtain ⟨u, xs, e4, g1, g2, g3, _⟩ := ard_ints Try.underlying27 Try.underlying5 k5 hd
    exact ⟨(u, xs.map (Value.int .u8)), e4, g1, g2, isB_map xs, g3⟩)
  exact ⟨v, ps, h1, h2.row (fun p : Value × List Value => p.1) ps, h3, hp⟩
end

theorem xdrRows_lifted (os : Os) (started : os.Started) (H : Type) (enc : TypeId × Value → H) :
    ReturnsInHanded {} Try.checked os 4 .any (Rows.xdrRowsSpec.pre6 enc Try.prog Try.f4 Rows.xdrRowsRow.domain false) (Rows.xdrRowsSpec.post enc Try.prog Try.f4 false true false false) := by
  refine returnsInHanded_of_change (C := Try.checked) own_knob started (by kernel_rfl) Try.func4
    (ChangeSpec.witness6 (enc := enc) (C := Try.checked) false ⟨#[], #[.slice none 0 0, .slice none 0 0, .slice none 0 0, .slice none 0 0], []⟩ 8 (by kernel_rfl) (by kernel_rfl) (by kernel_rfl) (by kernel_rfl)) ?_
  intro W base args ds gs before hval hW _ _
  have hd1 : ∃ d1 d2 d3 d4, ds = [d1, d2, d3, d4] := by
    obtain ⟨p, q, hA0, _⟩ := hW
    have hA : DataW.TrodAll enc Try.prog W 0 (fun _ => true) true Try.f4.params.toList args.toList ds p := hA0
    rw [Try.params4] at hA
    obtain ⟨_, _, _, _, d1, d2, d3, d4, _, _, _, _, _, h2, _⟩ := trodAll_four hA
    exact ⟨d1, d2, d3, d4, h2⟩
  obtain ⟨d1, d2, d3, d4, rfl⟩ := hd1
  refine law_true (P := Try.prog) (n := 6) (tb := 4) good laid_out rfl (base := base) hval hW rfl ?_ rfl Try.underlying4 rfl ?_
  · intro t ht
    rw [Try.params4] at ht
    have : t = 36 ∨ t = 37 ∨ t = 38 ∨ t = 39 := by simpa using ht
    rcases this with rfl | rfl | rfl | rfl <;> exact ⟨by kernel_rfl, by kernel_rfl, of_decide_eq_true (by kernel_rfl)⟩
  · intro h av hl hr hag
    rw [Try.params4] at hl hr hag
    match av, hl with
    | [a, b, c, d], _ =>
      have k44 : Try.prog.cellsOf 44 = 1 := by kernel_rfl
      have k30 : Try.prog.cellsOf 30 = 1 := by kernel_rfl
      have k4 : Try.prog.cellsOf 4 = 1 := by kernel_rfl
      obtain ⟨va, xa, e1, a1, a2, _, a4⟩ := ard_ints Try.underlying36 Try.underlying44 k44 (hr 0 _ a d1 rfl rfl rfl)
      obtain ⟨vb, xb, e2, b1, b2, _, _⟩ := ard_ints Try.underlying37 Try.underlying30 k30 (hr 1 _ b d2 rfl rfl rfl)
      obtain ⟨vc, xc, e3, c1, c2, _⟩ := ard_bools Try.underlying38 Try.underlying4 k4 (hr 2 _ c d3 rfl rfl rfl)
      obtain ⟨vd, ps, e4, p1, p2, p3⟩ := ard_pieces (hr 3 _ d d4 rfl rfl rfl)
      have q1 : a = va := one_of e1 Try.underlying36 (by simp) (by simp) (fun z hz => hag 0 _ z rfl (by rw [hz]; rfl))
      have q2 : b = vb := one_of e2 Try.underlying37 (by simp) (by simp) (fun z hz => hag 1 _ z rfl (by rw [hz]; rfl))
      have q3 : c = vc := one_of e3 Try.underlying38 (by simp) (by simp) (fun z hz => hag 2 _ z rfl (by rw [hz]; rfl))
      have q4 : d = vd := one_of e4 Try.underlying39 (by simp) (by simp) (fun z hz => hag 3 _ z rfl (by rw [hz]; rfl))
      subst q1; subst q2; subst q3; subst q4
      exact xdrRows_am a b c d xa xb xc ps h a1 a2 (fun x hx => wf_u32 (a4 x hx)) b1 b2 c1 c2 p1 p2 p3

theorem xdrRows_holds : Rows.XdrRowsSaid :=
  OpenClaim.holds_of_wide 4 Try.f4 rfl rfl rfl rfl rfl rfl rfl ⟨rfl, rfl, rfl, rfl, rfl⟩ rfl rfl rfl rfl rfl (by kernel_rfl) Try.func4 (by kernel_rfl)
    (of_decide_eq_true (by kernel_rfl)) (by unfold Func.isWrapper; first | (rw [if_pos (by decide +kernel)]; kernel_rfl) | (rw [if_neg (by decide +kernel)]; exact ⟨rfl, rfl⟩))
    (fun os started H enc _ => xdrRows_lifted os started H enc)

end Go.Proofs.Ytafnialikielkaa
