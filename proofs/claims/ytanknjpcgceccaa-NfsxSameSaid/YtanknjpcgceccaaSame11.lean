/- The statement NfsxSame: two arguments, two results are told to be the same as the document says; the law returns true and its arguments read as they did. Without conditions. -/
import Derived.Test.YtanknjpcgceccaaSame9
import Derived.Test.YtanknjpcgceccaaSame10
import Derived.JoinedCond

namespace Go.Proofs.Ytanknjpcgceccaa
open Go Go.AM Go.RowKit Go.ChangeShapes
set_option linter.unusedSimpArgs false
set_option maxRecDepth 100000
theorem agg_of {a : Value} {l : List Value} (hc : a.cells.toList = l) (hl : l.length ≠ 1) : a = .agg l.toArray := by
  cases a with
  | agg c => rw [← hc]; simp [Value.cells]
  | _ => exact absurd (by rw [← hc]; simp [Value.cells]) hl
end Go.Proofs.Ytanknjpcgceccaa

namespace Go.Proofs.Ytanknjpcgceccaa
open Go Go.AM Go.RowKit Go.ChangeShapes
set_option linter.unusedSimpArgs false
set_option maxRecDepth 100000
theorem nfsxSame_lifted (os : Os) (started : os.Started) (H : Type) (enc : TypeId × Value → H) :
    ReturnsInHanded {} Try.checked os 4 .any (Rows.nfsxSameSpec.pre6 enc Try.prog Try.f4 Rows.nfsxSameRow.domain false) (Rows.nfsxSameSpec.post enc Try.prog Try.f4 false true false false) := by
  refine returnsInHanded_of_change (C := Try.checked) own_knob started (by kernel_rfl) Try.func4
    (ChangeSpec.witness6 (enc := enc) (C := Try.checked) false ⟨#[], #[.agg argsZ.toArray, .agg argsZ.toArray, .agg resZ.toArray, .agg resZ.toArray], []⟩ 8 (by kernel_rfl) (by kernel_rfl) (by kernel_rfl) (by kernel_rfl)) ?_
  intro W base args ds gs before hval hW _ _
  have hd : ds.length = 4 := by
    obtain ⟨p, q, hA0, _⟩ := hW
    have hA : DataW.TrodAll enc Try.prog W 0 (fun _ => true) true Try.f4.params.toList args.toList ds p := hA0
    rw [Try.params4] at hA
    exact trodAll_len _ _ _ _ hA
  match ds, hd with
  | [d0, d1, d2, d3], _ =>
  refine law_true (P := Try.prog) (n := 8) (tb := 4) good laid_out rfl (base := base) hval hW rfl ?_ rfl Try.underlying4 rfl ?_
  · intro t ht
    rw [Try.params4] at ht
    have : t = 30 ∨ t = 30 ∨ t = 42 ∨ t = 42 := by simpa using ht
    rcases this with rfl | rfl | rfl | rfl <;> exact ⟨by kernel_rfl, by kernel_rfl, of_decide_eq_true (by kernel_rfl)⟩
  · intro h av hl hr hag
    rw [Try.params4] at hl hr hag
    match av, hl with
    | [a0, a1, a2, a3], _ =>
      have r0 := hr 0 _ a0 d0 rfl rfl rfl
      have g0 := fun (c : Array Value) (hc : a0 = .agg c) => hag 0 _ c rfl (by rw [hc]; rfl)
      have r1 := hr 1 _ a1 d1 rfl rfl rfl
      have g1 := fun (c : Array Value) (hc : a1 = .agg c) => hag 1 _ c rfl (by rw [hc]; rfl)
      have r2 := hr 2 _ a2 d2 rfl rfl rfl
      have g2 := fun (c : Array Value) (hc : a2 = .agg c) => hag 2 _ c rfl (by rw [hc]; rfl)
      have r3 := hr 3 _ a3 d3 rfl rfl rfl
      have g3 := fun (c : Array Value) (hc : a3 = .agg c) => hag 3 _ c rfl (by rw [hc]; rfl)
      clear hr hag hval hW
      obtain ⟨a, e0, w0, ra, _⟩ := ard_args r0
      obtain ⟨b, e1, w1, rb, _⟩ := ard_args r1
      obtain ⟨r, e2, w2, rr, _, er, _⟩ := ard_res r2
      obtain ⟨s, e3, w3, rs, _, es, _⟩ := ard_res r3
      rw [e0] at r0
      have ma := ard_args_max r0 ra
      have q0 : a0 = .agg a.cells.toArray := agg_of e0 (by rw [a.len]; decide)
      have q1 : a1 = .agg b.cells.toArray := agg_of e1 (by rw [b.len]; decide)
      have q2 : a2 = .agg r.cells.toArray := agg_of e2 (by rw [r.len]; decide)
      have q3 : a3 = .agg s.cells.toArray := agg_of e3 (by rw [s.len]; decide)
      subst q0; subst q1; subst q2; subst q3
      exact nfsxSame_am a b r s h w0 w1 w2 w3 ra rb ma rr rs er es
theorem nfsxSame_holds : Rows.NfsxSameSaid :=
  OpenClaim.holds_of_wide 4 Try.f4 rfl rfl rfl rfl rfl rfl rfl ⟨rfl, rfl, rfl, rfl, rfl⟩ rfl rfl rfl rfl rfl (by kernel_rfl) Try.func4 (by kernel_rfl)
    (of_decide_eq_true (by kernel_rfl)) (by unfold Func.isWrapper; first | (rw [if_pos (by decide +kernel)]; kernel_rfl) | (rw [if_neg (by decide +kernel)]; exact ⟨rfl, rfl⟩))
    (fun os started H enc _ => nfsxSame_lifted os started H enc)
end Go.Proofs.Ytanknjpcgceccaa
