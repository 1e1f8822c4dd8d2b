/- The abstract machine, part 19: slices of rows. -/
import Derived.Test.YtafnialikielkaaAm16
namespace Go.AM
open Go

/-- A row that can be sliced: type e, one cell each. -/
def RowX (h : Heap) (e : TypeId) (v : Value) (vs : List Value) : Prop :=
  (v = .slice none 0 0 ∧ vs = []) ∨ (vs = [] ∧ ∃ k off c, v = .slice (some ⟨k, off, none⟩) 0 c) ∨
  ∃ k off cap cs el ro, v = .slice (some ⟨k, off, none⟩) vs.length cap ∧ h.get k = some (.cells cs el ro) ∧ off + vs.length ≤ cs.length ∧ (cs.drop off).take vs.length = vs ∧ (isOpn cap = true → el = e) ∧ (isOpn cap = false → vs.length ≤ cap)

theorem RowX.row {h : Heap} {e : TypeId} {v : Value} {vs : List Value} (r : RowX h e v vs) : Row h v vs := by
  rcases r with r | r | ⟨k, off, cap, cs, el, ro, h1, h2, h3, h4, _⟩
  · exact .inl r
  · exact .inr (.inl r)
  · exact .inr (.inr ⟨k, off, cap, cs, el, ro, h1, h2, h3, h4⟩)
theorem RowX.same {h h' : Heap} {e : TypeId} {S : Nat → Prop} {v : Value} {vs : List Value} (r : RowX h e v vs) (hs : Same h h' S) (hv : ∀ a n c, v = .slice (some a) n c → n ≠ 0 → ¬ S a.block) : RowX h' e v vs := by
  rcases r with r | r | ⟨k, off, cap, cs, el, ro, rfl, hg, h1, h2, h3, h4⟩
  · exact .inl r
  · exact .inr (.inl r)
  · by_cases hz : vs.length = 0
    · have := List.eq_nil_of_length_eq_zero hz
      subst this
      exact .inr (.inl ⟨rfl, k, off, cap, rfl⟩)
    · exact .inr (.inr ⟨k, off, cap, cs, el, ro, rfl, hs.2 k _ hg (hv _ _ _ rfl hz), h1, h2, h3, h4⟩)
theorem Buf.rowX {h : Heap} {e : TypeId} {v : Value} {vs : List Value} (b : Buf h e v vs) : RowX h e v vs := by
  rcases b with b | ⟨rfl, k, cs, e', ro, rfl, _⟩ | ⟨k, cap, rfl, ho, _, hg⟩
  · exact .inl b
  · exact .inr (.inl ⟨rfl, k, 0, 0, rfl⟩)
  · exact .inr (.inr ⟨k, 0, cap, vs, e, false, rfl, hg, by omega, by simp, fun _ => rfl, fun h => by rw [ho] at h; cases h⟩)

theorem bound_nat {k : IntKind} {n y : Nat} (h : n ≤ y) : aBound (.int k n) y = some n := by
  simp only [aBound]
  rw [if_pos ⟨by omega, by omega⟩, Int.toNat_natCast]

theorem seg_take {α : Type} {cs vs : List α} {off lo hi : Nat} (h : (cs.drop off).take vs.length = vs) (hl : lo ≤ hi) (hh : hi ≤ vs.length) : (cs.drop (off + lo)).take (hi - lo) = (vs.drop lo).take (hi - lo) := by
  conv => rhs; rw [← h]
  rw [List.drop_take, List.drop_drop, List.take_take, Nat.min_eq_left (by omega)]

/-- A part of a row. -/
theorem RowX.slice {P : Program} {h : Heap} {t e : TypeId} {i : TypeInfo} {v : Value} {vs : List Value} (r : RowX h e v vs) (hu : P.underlying t = some (.slice e)) (hi : P.info? e = some i) (hs : i.size = 1) {kl kh : IntKind} {lo hi' : Nat} (h1 : lo ≤ hi') (h2 : hi' ≤ vs.length) :
    ∃ v', aSlice P h t v (some (.int kl lo)) (some (.int kh hi')) none = some v' ∧ RowX h e v' ((vs.drop lo).take (hi' - lo)) ∧ ∀ a n c, v' = .slice (some a) n c → n ≠ 0 → ∃ a0 n0 c0, v = .slice (some a0) n0 c0 ∧ n0 ≠ 0 ∧ a.block = a0.block := by
  have hop0 : isOpn 0 = false := by decide
  rcases r with ⟨rfl, rfl⟩ | ⟨rfl, k, off, c, rfl⟩ | ⟨k, off, cap, cs, el, ro, rfl, hg, g1, g2, g3, g4⟩
  · simp only [List.length_nil] at h2
    have : hi' = 0 := by omega
    subst this
    have : lo = 0 := by omega
    subst this
    refine ⟨.slice none 0 0, ?_, .inl ⟨rfl, by simp⟩, fun a n c hv => by cases hv⟩
    simp only [aSlice, hu, hi, hop0, cond_false, aBoundO]
    rw [bound_nat (Nat.le_refl 0)]
    simp only
    rw [bound_nat (Nat.le_refl 0)]
  · simp only [List.length_nil] at h2
    have : hi' = 0 := by omega
    subst this
    have : lo = 0 := by omega
    subst this
    cases ho : isOpn c with
    | true =>
      refine ⟨.slice (some ⟨k, off, none⟩) 0 c, ?_, .inr (.inl ⟨by simp, k, off, c, rfl⟩), fun a n c hv hn => by injection hv with _ e2; exact absurd e2.symm hn⟩
      simp only [aSlice, hu, hi, ho, cond_true, aBoundO]
      rw [bound_nat (Nat.le_refl 0)]
      simp only
      rw [bound_nat (Nat.le_refl 0)]
      simp
    | false =>
      refine ⟨_, ?_, .inr (.inl ⟨by simp, k, (bif Nat.beq c 0 then off else off + 0 * i.size), c - 0, rfl⟩), fun a n c hv hn => by injection hv with _ e2; exact absurd e2.symm hn⟩
      simp only [aSlice, hu, hi, ho, cond_false, aBoundO]
      rw [bound_nat (Nat.zero_le c)]
      simp only
      rw [bound_nat (Nat.le_refl 0)]
  · have hlen : ((vs.drop lo).take (hi' - lo)).length = hi' - lo := by rw [List.length_take, List.length_drop]; omega
    cases ho : isOpn cap with
    | true =>
      have hel := g3 ho
      subst hel
      by_cases hl0 : lo = 0
      · subst hl0
        refine ⟨.slice (some ⟨k, off, none⟩) hi' cap, ?_, .inr (.inr ⟨k, off, cap, cs, el, ro, by rw [hlen]; rfl, hg, by rw [hlen]; omega, by rw [hlen]; simpa using seg_take g2 (Nat.zero_le hi') h2, fun _ => rfl, fun h => by rw [ho] at h; cases h⟩), fun a n c hv hn => ?_⟩
        · simp only [aSlice, hu, hi, ho, cond_true, aBoundO]
          rw [bound_nat h2]
          simp only
          rw [bound_nat (Nat.zero_le hi')]
          simp
        · injection hv with e1 e2; injection e1 with e1; subst e1; subst e2
          exact ⟨_, _, _, rfl, by omega, rfl⟩
      · by_cases hlt : lo < vs.length
        · refine ⟨.slice (some ⟨k, off + lo * i.size, none⟩) (hi' - lo) opnCap, ?_, .inr (.inr ⟨k, off + lo * i.size, opnCap, cs, el, ro, by rw [hlen], hg, by rw [hlen, hs]; omega, by rw [hlen, hs, Nat.mul_one]; exact seg_take g2 h1 h2, fun _ => rfl, fun h => by rw [show isOpn opnCap = true by decide] at h; cases h⟩), fun a n c hv hn => ?_⟩
          · simp only [aSlice, hu, hi, ho, cond_true, aBoundO]
            rw [bound_nat h2]
            simp only
            rw [bound_nat h1]
            have b0 : Nat.beq lo 0 = false := by
              cases hb : Nat.beq lo 0 with
              | false => rfl
              | true => exact absurd (Nat.eq_of_beq_eq_true hb) hl0
            simp only [b0, cond_false, blt_true hlt, cond_true, hg, Nat.beq_refl]
          · injection hv with e1 e2; injection e1 with e1; subst e1; subst e2
            exact ⟨_, _, _, rfl, by omega, rfl⟩
        · have he : lo = vs.length := by omega
          have hnil : (vs.drop lo).take (hi' - lo) = [] := by rw [he, List.drop_length]; simp
          refine ⟨slE, ?_, .inr (.inl ⟨hnil, 0, 0, _, rfl⟩), fun a n c hv hn => by unfold slE at hv; injection hv with _ e2; exact absurd e2.symm hn⟩
          simp only [aSlice, hu, hi, ho, cond_true, aBoundO]
          rw [bound_nat h2]
          simp only
          rw [bound_nat h1]
          have b0 : Nat.beq lo 0 = false := by
            cases hb : Nat.beq lo 0 with
            | false => rfl
            | true => exact absurd (Nat.eq_of_beq_eq_true hb) hl0
          simp only [b0, cond_false, blt_false hlt]
    | false =>
      have hc := g4 ho
      refine ⟨.slice (some ⟨k, (bif Nat.beq cap lo then off else off + lo * i.size), none⟩) (hi' - lo) (cap - lo), ?_, ?_, fun a n c hv hn => ?_⟩
      · simp only [aSlice, hu, hi, ho, cond_false, aBoundO]
        rw [bound_nat (show hi' ≤ cap by omega)]
        simp only
        rw [bound_nat h1]
      · by_cases hz : hi' - lo = 0
        · have hnil : (vs.drop lo).take (hi' - lo) = [] := by rw [hz]; simp
          exact .inr (.inl ⟨hnil, k, _, cap - lo, by rw [hz]⟩)
        · have b0 : Nat.beq cap lo = false := by
            cases hb : Nat.beq cap lo with
            | false => rfl
            | true => have := Nat.eq_of_beq_eq_true hb; omega
          have ho2 : isOpn (cap - lo) = false := by
            cases hq : isOpn (cap - lo) with
            | false => rfl
            | true =>
              have hb := ble_iff.1 hq
              have : isOpn cap = true := ble_iff.2 (by omega)
              rw [ho] at this; cases this
          refine .inr (.inr ⟨k, off + lo * i.size, cap - lo, cs, el, ro, by rw [hlen, b0]; rfl, hg, by rw [hlen, hs]; omega, by rw [hlen, hs, Nat.mul_one]; exact seg_take g2 h1 h2, (fun h => by rw [ho2] at h; cases h), fun _ => by rw [hlen]; omega⟩)
      · injection hv with e1 e2; injection e1 with e1; subst e1; subst e2
        exact ⟨_, _, _, rfl, by omega, rfl⟩

/-- The walk's law for b[lo:hi]. -/
theorem WOps_slice2 {P : Program} {ops : Array Oper} {Q : List Value → Heap → Prop} {env : List Value} {h : Heap} {l : List Oper} {d : Option Tmp} {ty : TypeId} {ps : String} {af : Array Edge} {t : TypeId} {x lo hi : Operand} :
    WOps P ops Q (⟨d, .slice t x (some lo) (some hi) none, ty, ps, af, none⟩ :: l) env h = WV P ops Q l env h d (aSlice P h t (aEval env x) (some (aEval env lo)) (some (aEval env hi)) none) := (WOps_slice rfl)
end Go.AM
