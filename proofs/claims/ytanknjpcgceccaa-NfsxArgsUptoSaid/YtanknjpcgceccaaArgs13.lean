/- The statement NfsxArgs, where what it reads is of bulk at most 1048576: of any procedure any bytes are read as arguments, any arguments written, as the document says; the law returns true and its arguments read as they did. -/
import Derived.Test.YtanknjpcgceccaaArgs12
import Derived.JoinedCond

namespace Go.Proofs.Ytanknjpcgceccaa
open Go Go.AM Go.RowKit Go.ChangeShapes
set_option linter.unusedSimpArgs false
set_option maxRecDepth 100000
theorem agg_of {a : Value} {l : List Value} (hc : a.cells.toList = l) (hl : l.length ≠ 1) : a = .agg l.toArray := by
  cases a with
  | agg c => rw [← hc]; simp [Value.cells]
  | _ => exact absurd (by rw [← hc]; simp [Value.cells]) hl
theorem nfsxArgs_lifted (os : Os) (started : os.Started) (H : Type) (enc : TypeId × Value → H) (F : Stop.Interp) :
    ReturnsInHanded {} Try.checked os 3 .any ((Rows.OpenSpec.upto Rows.nfsxArgsSpec).pre6 enc Try.prog Try.f3 Rows.nfsxArgsUptoRow.domain false) (((Rows.OpenSpec.upto Rows.nfsxArgsSpec).at F).post enc Try.prog Try.f3 false true false false) := by
  refine returnsInHanded_of_cond (C := Try.checked) (s := (Rows.OpenSpec.upto Rows.nfsxArgsSpec)) (k := Rows.uptoSmall) rfl own_knob started (by kernel_rfl) Try.func3
    (OpenSpec.witness (enc := enc) (C := Try.checked) (s := (Rows.OpenSpec.upto Rows.nfsxArgsSpec)) (k := Rows.uptoSmall) rfl false ⟨#[], #[.int .i64 0, .slice none 0 0, .agg argsZ.toArray], []⟩ 8 (by kernel_rfl) (by kernel_rfl) (by kernel_rfl) (x := ([.lit (.int .i64 0), .nil, .agg [.lit (.string []), .lit (.string []), .lit (.string []), .lit (.string []), .lit (.string []), .agg [.lit (.bool false), .lit (.bool false), .lit (.bool false), .lit (.bool false), .lit (.int .i64 0), .lit (.int .u32 0), .lit (.int .u32 0), .lit (.int .u64 0), .lit (.int .i64 0), .lit (.int .i64 0), .agg [.lit (.int .u32 0), .lit (.int .u32 0)], .agg [.lit (.int .u32 0), .lit (.int .u32 0)]], .lit (.bool false), .agg [.lit (.int .u32 0), .lit (.int .u32 0)], .lit (.int .u32 0), .lit (.int .u64 0), .lit (.int .u32 0), .lit (.int .i64 0), .lit (.int .i64 0), .lit (.int .i64 0), .nil, .lit (.int .u64 0), .lit (.int .u64 0), .lit (.int .u64 0), .lit (.int .u32 0), .lit (.int .u32 0), .lit (.int .u32 0), .lit (.int .u32 0)]], [], [])) (by kernel_rfl) rfl (by simp [Rows.uptoSmall, Rows.uptoBulk, Rows.uptoBulkAll])) ?_
  intro W base args ds gs before hval hW _ hkk _
  have hd : ds.length = 3 := by
    obtain ⟨p, q, hA0, _⟩ := hW
    have hA : DataW.TrodAll enc Try.prog W 0 (fun _ => true) true Try.f3.params.toList args.toList ds p := hA0
    rw [Try.params3] at hA
    exact trodAll_len _ _ _ _ hA
  match ds, hd with
  | [d0, d1, d2], _ =>
  have hbk := of_decide_eq_true hkk
  simp only [List.cons_append, List.nil_append, Rows.uptoBulkAll] at hbk
  refine law_true (P := Try.prog) (s := (Rows.OpenSpec.upto Rows.nfsxArgsSpec).at F) (n := 6) (tb := 4) good laid_out rfl (base := base) hval hW rfl ?_ rfl Try.underlying4 rfl ?_
  · intro t ht
    rw [Try.params3] at ht
    have : t = 3 ∨ t = 22 ∨ t = 30 := by simpa using ht
    rcases this with rfl | rfl | rfl <;> exact ⟨by kernel_rfl, by kernel_rfl, of_decide_eq_true (by kernel_rfl)⟩
  · intro h av hl hr hag
    rw [Try.params3] at hl hr hag
    match av, hl with
    | [a0, a1, a2], _ =>
      have r0 := hr 0 _ a0 d0 rfl rfl rfl
      have g0 := fun (c : Array Value) (hc : a0 = .agg c) => hag 0 _ c rfl (by rw [hc]; rfl)
      have r1 := hr 1 _ a1 d1 rfl rfl rfl
      have g1 := fun (c : Array Value) (hc : a1 = .agg c) => hag 1 _ c rfl (by rw [hc]; rfl)
      have r2 := hr 2 _ a2 d2 rfl rfl rfl
      have g2 := fun (c : Array Value) (hc : a2 = .agg c) => hag 2 _ c rfl (by rw [hc]; rfl)
      clear hr hag hval hW
      obtain ⟨x0, e0, _⟩ := ard_int Try.underlying3 r0
      have k5 : Try.prog.cellsOf 5 = 1 := by kernel_rfl
      obtain ⟨v1, xs, e1, hx, hs, hb⟩ := ard_bytes Try.underlying22 Try.underlying5 k5 r1
      obtain ⟨ar, e2, wf, ra, _, md⟩ := ard_args r2
      have q0 : a0 = .int .i64 x0 := one_of e0 Try.underlying3 (by simp) (by simp) g0
      have q1 : a1 = v1 := one_of e1 Try.underlying22 (by simp) (by simp) g1
      have q2 : a2 = .agg ar.cells.toArray := agg_of e2 (by rw [ar.len]; decide)
      subst q0; subst q1; subst q2
      exact nfsxArgs_am x0 a1 xs ar h hs hx hb wf ra (md (by omega))
theorem nfsxArgs_holds : Rows.NfsxArgsUptoSaid :=
  OpenClaim.holds_of_cond 3 Try.f3 rfl rfl rfl rfl rfl rfl rfl ⟨rfl, rfl, rfl, rfl, rfl⟩ rfl rfl rfl rfl rfl (by kernel_rfl) Try.func3 (by kernel_rfl)
    (of_decide_eq_true (by kernel_rfl)) (by unfold Func.isWrapper; first | (rw [if_pos (by decide +kernel)]; kernel_rfl) | (rw [if_neg (by decide +kernel)]; exact ⟨rfl, rfl⟩))
    (fun os started H enc _ F => nfsxArgs_lifted os started H enc F)
end Go.Proofs.Ytanknjpcgceccaa
