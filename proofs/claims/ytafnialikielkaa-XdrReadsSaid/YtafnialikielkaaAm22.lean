/- The abstract machine, part 22: more of what arguments come to. -/
import Derived.Test.YtafnialikielkaaAm18
import Derived.Test.YtafnialikielkaaAm19
namespace Go.AM
open Go Go.RowKit Go.ChangeShapes

section
variable {H : Type} {enc : TypeId × Value → H} {P : Program} {W : World} {h : Heap}

theorem trodAll_len {b : Bool} {c : Nat → Bool} {n : Nat} : ∀ (ts : List TypeId) (vs : List Value) (ds : List (DataW H)) (ps : List MemPlace), DataW.TrodAll enc P W n c b ts vs ds ps → ds.length = ts.length
  | [], [], [], _, _ => rfl
  | t :: ts, v :: vs, d :: ds, ps, hp => by
    obtain ⟨p, q, _, h2, _⟩ := hp
    simp [trodAll_len ts vs ds q h2]
  | [], _ :: _, _, _, h => by simp [DataW.TrodAll] at h
  | [], [], _ :: _, _, h => by simp [DataW.TrodAll] at h
  | _ :: _, [], _, _, h => by simp [DataW.TrodAll] at h
  | _ :: _, _ :: _, [], _, h => by simp [DataW.TrodAll] at h

theorem wf_u8 {x : Int} (h : (Lit.int .u8 x).wf = true) : 0 ≤ x ∧ x < 256 := by
  simp [Lit.wf, IntKind.min, IntKind.max, IntKind.bits, IntKind.signed] at h
  omega
theorem wf_u32' {x : Int} (h : (Lit.int .u32 x).wf = true) : 0 ≤ x ∧ x < 4294967296 := by
  simp [Lit.wf, IntKind.min, IntKind.max, IntKind.bits, IntKind.signed] at h
  omega
theorem wf_u64 {x : Int} (h : (Lit.int .u64 x).wf = true) : 0 ≤ x ∧ x < 18446744073709551616 := by
  simp [Lit.wf, IntKind.min, IntKind.max, IntKind.bits, IntKind.signed] at h
  omega
theorem wf_i64 {x : Int} (h : (Lit.int .i64 x).wf = true) : -9223372036854775808 ≤ x ∧ x ≤ 9223372036854775807 := by
  simp [Lit.wf, IntKind.min, IntKind.max, IntKind.bits, IntKind.signed] at h
  omega

/-- A row of bytes, as it comes in. -/
theorem ard_bytes {n : Nat} {t e : TypeId} {cs : List Value} {d : DataW H} (hu : P.underlying t = some (.slice e)) (he : P.underlying e = some (.int .u8)) (hc : P.cellsOf e = 1) (r : ARd P h (n + 2) t cs d) :
    ∃ (v : Value) (xs : List Int), cs = [v] ∧ RowX h e v (xs.map (Value.int .u8)) ∧ (∃ a n c, v = .slice a n c) ∧ ∀ x ∈ xs, 0 ≤ x ∧ x < 256 := by
  obtain ⟨v, xs, h1, h2, _, h4, h5⟩ := ard_ints hu he hc r
  refine ⟨v, xs, h1, ?_, h4, fun x hx => wf_u8 (h5 x hx)⟩
  unfold ARd at r
  rw [hu] at r
  rcases r with ⟨h6, _⟩ | ⟨sp, h6, _⟩ | ⟨k, cap, cells, el, es, sp, h6, hne, h7, h8, _, h9, _⟩
  · rw [h1] at h6; injection h6 with h6; subst h6
    rcases h2 with h2 | ⟨_, _, _, _, h2⟩ | ⟨_, _, _, _, _, _, h2, _⟩
    · exact .inl h2
    · cases h2
    · injection h2 with h2; cases h2
  · rw [h1] at h6; injection h6 with h6
    rcases h2 with h2 | h2 | ⟨k, off, cap, cs', el, ro, h2, hg, h10, h11⟩
    · exact .inl h2
    · exact .inr (.inl h2)
    · refine .inr (.inl ?_)
      rw [h6] at h2
      unfold slE at h2
      injection h2 with e1 e2 e3
      exact ⟨List.eq_nil_of_length_eq_zero e2.symm, 0, 0, _, by rw [h6]; rfl⟩
  · rw [h1] at h6; injection h6 with h6
    rcases h2 with h2 | h2 | ⟨k', off, cap', cs', el', ro, h2, hg, h10, h11⟩
    · exact .inl h2
    · exact .inr (.inl h2)
    · have h2' := h2
      rw [h6] at h2
      injection h2 with e1 e2 e3
      have ho : isOpn cap = false := by
        cases hq : isOpn cap with
        | false => rfl
        | true =>
          have := ble_iff.1 hq
          have : maxLen < 1237940039285380274899124224 := by decide
          omega
      subst e3
      exact .inr (.inr ⟨k', off, cap, cs', el', ro, h2', hg, h10, h11, fun x => (by rw [ho] at x; cases x), fun _ => by rw [← e2]; exact h8⟩)
end
end Go.AM
