/- The statement XdrPads: bytes are followed by just as many noughts as make them a multiple of four; one that is none is refused, and nothing is read; the law returns true and its arguments read as they did. Without conditions. -/
import Derived.Test.YtafnialikielkaaXv
import Derived.Test.YtafnialikielkaaXx
namespace Go.Proofs.Ytafnialikielkaa
open Go Go.AM Go.RowKit Go.ChangeShapes
set_option linter.unusedSimpArgs false

theorem xdrPads_lifted (os : Os) (started : os.Started) (H : Type) (enc : TypeId × Value → H) :
    ReturnsInHanded {} Try.checked os 5 .any (Rows.xdrPadsSpec.pre6 enc Try.prog Try.f5 Rows.xdrPadsRow.domain false) (Rows.xdrPadsSpec.post enc Try.prog Try.f5 false true false false) := by
  refine returnsInHanded_of_change (C := Try.checked) own_knob started (by kernel_rfl) Try.func5
    (ChangeSpec.witness6 (enc := enc) (C := Try.checked) false ⟨#[], #[.slice none 0 0, .int .i64 0, .int .u8 0, .slice none 0 0], []⟩ 8 (by kernel_rfl) (by kernel_rfl) (by kernel_rfl) (by kernel_rfl)) ?_
  intro W base args ds gs before hval hW _ _
  have hd : ds.length = 4 := by
    obtain ⟨p, q, hA0, _⟩ := hW
    have hA : DataW.TrodAll enc Try.prog W 0 (fun _ => true) true Try.f5.params.toList args.toList ds p := hA0
    rw [Try.params5] at hA
    exact trodAll_len _ _ _ _ hA
  match ds, hd with
  | [d0, d1, d2, d3], _ =>
  refine law_true (P := Try.prog) (n := 6) (tb := 4) good laid_out rfl (base := base) hval hW rfl ?_ rfl Try.underlying4 rfl ?_
  · intro t ht
    rw [Try.params5] at ht
    have : t = 27 ∨ t = 3 ∨ t = 5 ∨ t = 27 := by simpa using ht
    rcases this with rfl | rfl | rfl | rfl <;> exact ⟨by kernel_rfl, by kernel_rfl, of_decide_eq_true (by kernel_rfl)⟩
  · intro h av hl hr hag
    rw [Try.params5] at hl hr hag
    match av, hl with
    | [a0, a1, a2, a3], _ =>
      have r0 := hr 0 _ a0 d0 rfl rfl rfl
      have g0 := fun (c : Array Value) (hc : a0 = .agg c) => hag 0 _ c rfl (by rw [hc]; rfl)
      have r1 := hr 1 _ a1 d1 rfl rfl rfl
      have g1 := fun (c : Array Value) (hc : a1 = .agg c) => hag 1 _ c rfl (by rw [hc]; rfl)
      have r2 := hr 2 _ a2 d2 rfl rfl rfl
      have g2 := fun (c : Array Value) (hc : a2 = .agg c) => hag 2 _ c rfl (by rw [hc]; rfl)
      have r3 := hr 3 _ a3 d3 rfl rfl rfl
      have g3 := fun (c : Array Value) (hc : a3 = .agg c) => hag 3 _ c rfl (by rw [hc]; rfl)
      clear hr hag hval hW
      obtain ⟨v0, bs, e0, b1, b2, b3⟩ := ard_bytes Try.underlying27 Try.underlying5 cells5 r0
      obtain ⟨x1, e1, w1⟩ := ard_int Try.underlying3 r1
      obtain ⟨x2, e2, w2⟩ := ard_int Try.underlying5 r2
      obtain ⟨v3, ms, e3, c1, c2, c3⟩ := ard_bytes Try.underlying27 Try.underlying5 cells5 r3
      have q0 : a0 = v0 := one_of e0 Try.underlying27 (by simp) (by simp) g0
      have q1 : a1 = .int .i64 x1 := one_of e1 Try.underlying3 (by simp) (by simp) g1
      have q2 : a2 = .int .u8 x2 := one_of e2 Try.underlying5 (by simp) (by simp) g2
      have q3 : a3 = v3 := one_of e3 Try.underlying27 (by simp) (by simp) g3
      subst q0; subst q1; subst q2; subst q3
      exact xdrPads_am a0 a3 bs ms x1 x2 h b2 b1 b3 c1 c3 (wf_u8 w2) (wf_i64 w1).1 (wf_i64 w1).2

theorem xdrPads_holds : Rows.XdrPadsSaid :=
  OpenClaim.holds_of_wide 5 Try.f5 rfl rfl rfl rfl rfl rfl rfl ⟨rfl, rfl, rfl, rfl, rfl⟩ rfl rfl rfl rfl rfl (by kernel_rfl) Try.func5 (by kernel_rfl)
    (of_decide_eq_true (by kernel_rfl)) (by unfold Func.isWrapper; first | (rw [if_pos (by decide +kernel)]; kernel_rfl) | (rw [if_neg (by decide +kernel)]; exact ⟨rfl, rfl⟩))
    (fun os started H enc _ => xdrPads_lifted os started H enc)

end Go.Proofs.Ytafnialikielkaa
