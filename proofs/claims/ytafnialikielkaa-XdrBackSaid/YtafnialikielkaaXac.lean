/- The statement XdrBack: what was written is read again, item by item, to the end; all of it is a multiple of four; cut anywhere it cannot be read whole; the law returns true and its arguments read as they did. Without conditions. -/
import Derived.Test.YtafnialikielkaaXv
import Derived.Test.YtafnialikielkaaXab
namespace Go.Proofs.Ytafnialikielkaa
open Go Go.AM Go.RowKit Go.ChangeShapes
set_option linter.unusedSimpArgs false

theorem items_two {h : Heap} : ∀ its : List It, (∀ i ∈ its, i.okX h) → ∃ js : List It2, its.map It.cells = js.map It2.cells ∧ ∀ j ∈ js, j.ok h
  | [], _ => ⟨[], rfl, by simp⟩
  | i :: its, hi => by
    obtain ⟨js, h1, h2⟩ := items_two its (fun j hj => hi j (by simp [hj]))
    obtain ⟨o1, ⟨xs, e, o2⟩, o3, _, _, o4, o5⟩ := hi i (by simp)
    refine ⟨⟨i.k, i.n, i.V, i.on, i.bv, xs⟩ :: js, by rw [List.map_cons, List.map_cons, h1]; rfl, fun j hj => ?_⟩
    rcases List.mem_cons.1 hj with rfl | hj
    · exact ⟨by rw [e] at o1; exact o1, o2, o3, o4, o5⟩
    · exact h2 j hj

theorem xdrBack_lifted (os : Os) (started : os.Started) (H : Type) (enc : TypeId × Value → H) :
    ReturnsInHanded {} Try.checked os 7 .any (Rows.xdrBackSpec.pre6 enc Try.prog Try.f7 Rows.xdrBackRow.domain false) (Rows.xdrBackSpec.post enc Try.prog Try.f7 false true false false) := by
  refine returnsInHanded_of_change (C := Try.checked) own_knob started (by kernel_rfl) Try.func7
    (ChangeSpec.witness6 (enc := enc) (C := Try.checked) false ⟨#[], #[.slice none 0 0, .int .i64 0], []⟩ 8 (by kernel_rfl) (by kernel_rfl) (by kernel_rfl) (by kernel_rfl)) ?_
  intro W base args ds gs before hval hW _ _
  have hd : ds.length = 2 := by
    obtain ⟨p, q, hA0, _⟩ := hW
    have hA : DataW.TrodAll enc Try.prog W 0 (fun _ => true) true Try.f7.params.toList args.toList ds p := hA0
    rw [Try.params7] at hA
    exact trodAll_len _ _ _ _ hA
  match ds, hd with
  | [d0, d1], _ =>
  refine law_true (P := Try.prog) (n := 6) (tb := 4) good laid_out rfl (base := base) hval hW rfl ?_ rfl Try.underlying4 rfl ?_
  · intro t ht
    rw [Try.params7] at ht
    have : t = 22 ∨ t = 3 := by simpa using ht
    rcases this with rfl | rfl <;> exact ⟨by kernel_rfl, by kernel_rfl, of_decide_eq_true (by kernel_rfl)⟩
  · intro h av hl hr hag
    rw [Try.params7] at hl hr hag
    match av, hl with
    | [a0, a1], _ =>
      have r0 := hr 0 _ a0 d0 rfl rfl rfl
      have g0 := fun (c : Array Value) (hc : a0 = .agg c) => hag 0 _ c rfl (by rw [hc]; rfl)
      have r1 := hr 1 _ a1 d1 rfl rfl rfl
      have g1 := fun (c : Array Value) (hc : a1 = .agg c) => hag 1 _ c rfl (by rw [hc]; rfl)
      clear hr hag hval hW
      obtain ⟨v0, its, e0, h1, _, h3⟩ := ard_itemsX r0
      obtain ⟨x1, e1, w1⟩ := ard_int Try.underlying3 r1
      have q0 : a0 = v0 := one_of e0 Try.underlying22 (by simp) (by simp) g0
      have q1 : a1 = .int .i64 x1 := one_of e1 Try.underlying3 (by simp) (by simp) g1
      subst q0; subst q1
      rw [e0] at r0
      have hcap := ard_cap Try.underlying22 r0
      obtain ⟨js, hj1, hj2⟩ := items_two its h3
      rw [hj1] at h1
      exact xdrBack_am a0 x1 js h h1 hcap hj2

theorem xdrBack_holds : Rows.XdrBackSaid :=
  OpenClaim.holds_of_wide 7 Try.f7 rfl rfl rfl rfl rfl rfl rfl ⟨rfl, rfl, rfl, rfl, rfl⟩ rfl rfl rfl rfl rfl (by kernel_rfl) Try.func7 (by kernel_rfl)
    (of_decide_eq_true (by kernel_rfl)) (by unfold Func.isWrapper; first | (rw [if_pos (by decide +kernel)]; kernel_rfl) | (rw [if_neg (by decide +kernel)]; exact ⟨rfl, rfl⟩))
    (fun os started H enc _ => xdrBack_lifted os started H enc)

end Go.Proofs.Ytafnialikielkaa
