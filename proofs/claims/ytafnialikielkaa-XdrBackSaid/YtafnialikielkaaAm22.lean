/- The abstract machine, part 22: more of what arguments come to. -/
import Derived.Test.YtafnialikielkaaAm18
import Derived.Test.YtafnialikielkaaAm19
namespace Go.AM
open Go Go.RowKit Go.ChangeShapes

section
variable {H : Type} {enc : TypeId × Value → H} {P : Program} {W : World} {h : Heap}

theorem trodAll_len {b : Bool} {c : Nat → Bool} {n : Nat} : ∀ (ts : List TypeId) (vs : List Value) (ds : List (DataW H)) (ps : List MemPlace), DataW.TrodAll enc P W n c b ts vs ds ps → ds.length = ts.length
  | [], [], [], _, _ => rfl
  | t :: ts, v :: vs, d :: ds, ps, hp => by
    obtain ⟨p, q, _, h2, _⟩ := hp
    simp [trodAll_len ts vs ds q h2]
  | [], _ :: _, _, _, h => by simp [DataW.TrodAll] at h
  | [], [], _ :: _, _, h => by simp [DataW.TrodAll] at h
  | _ :: _, [], _, _, h => by simp [DataW.TrodAll] at h
  | _ :: _, _ :: _, [], _, h => by simp [DataW.TrodAll] at h

theorem wf_u8 {x : Int} (h : (Lit.int .u8 x).wf = true) : 0 ≤ x ∧ x < 256 := by
  simp [Lit.wf, IntKind.min, IntKind.max, IntKind.bits, IntKind.signed] at h
  omega
theorem wf_u32' {x : Int} (h : (Lit.int .u32 x).wf = true) : 0 ≤ x ∧ x < 4294967296 := by
  simp [Lit.wf, IntKind.min, IntKind.max, IntKind.bits, IntKind.signed] at h
  omega
theorem wf_u64 {x : Int} (h : (Lit.int .u64 x).wf = true) : 0 ≤ x ∧ x < 18446744073709551616 := by
  simp [Lit.wf, IntKind.min, IntKind.max, IntKind.bits, IntKind.signed] at h
  omega
theorem wf_i64 {x : Int} (h : (Lit.int .i64 x).wf = true) : -9223372036854775808 ≤ x ∧ x ≤ 9223372036854775807 := by
  simp [Lit.wf, IntKind.min, IntKind.max, IntKind.bits, IntKind.signed] at h
  omega

/-- A row of bytes, as it comes in. -/
theorem ard_bytes {n : Nat} {t e : TypeId} {cs : List Value} {d : DataW H} (hu : P.underlying t = some (.slice e)) (he : P.underlying e = some (.int .u8)) (hc : P.cellsOf e = 1) (r : ARd P h (n + 2) t cs d) :
    ∃ (v : Value) (xs : List Int), cs = [v] ∧ RowX h e v (xs.map (Value.int .u8)) ∧ (∃ a n c, v = .slice a n c) ∧ ∀ x ∈ xs, 0 ≤ x ∧ x < 256 := by
  obtain ⟨v, xs, h1, h2, _, h4, h5⟩ := ard_ints hu he hc r
  refine ⟨v, xs, h1, ?_, h4, fun x hx => wf_u8 (h5 x hx)⟩
  unfold ARd at r
  rw [hu] at r
  rcases r with ⟨h6, _⟩ | ⟨sp, h6, _⟩ | ⟨k, cap, cells, el, es, sp, h6, hne, h7, h8, _, h9, _⟩
  · rw [h1] at h6; injection h6 with h6; subst h6
    rcases h2 with h2 | ⟨_, _, _, _, h2⟩ | ⟨_, _, _, _, _, _, h2, _⟩
    · exact .inl h2
    · cases h2
    · injection h2 with h2; cases h2
  · rw [h1] at h6; injection h6 with h6
    rcases h2 with h2 | h2 | ⟨k, off, cap, cs', el, ro, h2, hg, h10, h11⟩
    · exact .inl h2
    · exact .inr (.inl h2)
    · refine .inr (.inl ?_)
      rw [h6] at h2
      unfold slE at h2
      injection h2 with e1 e2 e3
      exact ⟨List.eq_nil_of_length_eq_zero e2.symm, 0, 0, _, by rw [h6]; rfl⟩
  · rw [h1] at h6; injection h6 with h6
    rcases h2 with h2 | h2 | ⟨k', off, cap', cs', el', ro, h2, hg, h10, h11⟩
    · exact .inl h2
    · exact .inr (.inl h2)
    · have h2' := h2
      rw [h6] at h2
      injection h2 with e1 e2 e3
      have ho : isOpn cap = false := by
        cases hq : isOpn cap with
        | false => rfl
        | true =>
          have := ble_iff.1 hq
          have : maxLen < 1237940039285380274899124224 := by decide
          omega
      subst e3
      exact .inr (.inr ⟨k', off, cap, cs', el', ro, h2', hg, h10, h11, fun x => (by rw [ho] at x; cases x), fun _ => by rw [← e2]; exact h8⟩)
end
/-! ### the beginning of a row -/
theorem aSlice_lo0 {P : Program} {h : Heap} {t : TypeId} {x : Value} {hi mx : Option Value} {k : IntKind} : aSlice P h t x none hi mx = aSlice P h t x (some (.int k 0)) hi mx := by
  have e : ∀ y d, aBoundO none y 0 = aBoundO (some (.int k 0)) y d := fun y d => by simp [aBoundO, aBound]
  unfold aSlice
  simp only [e _ 0]

/-- The first rows. -/
theorem RowS.to {P : Program} {h : Heap} {t e : TypeId} {i : TypeInfo} {sz : Nat} {v : Value} {rows : List (List Value)} (r : RowS h sz v rows) (hc : ∀ a n c, v = .slice (some a) n c → n ≠ 0 → isOpn c = false ∧ n ≤ c) (hu : P.underlying t = some (.slice e)) (hi : P.info? e = some i) {kd : IntKind} {n : Nat} (hn : n ≤ rows.length) :
    ∃ v', aSlice P h t v none (some (.int kd n)) none = some v' ∧ RowS h sz v' (rows.take n) ∧ (∀ a m c, v' = .slice (some a) m c → m ≠ 0 → ∃ a0 n0 c0, v = .slice (some a0) n0 c0 ∧ n0 ≠ 0 ∧ a.block = a0.block) := by
  have hop0 : isOpn 0 = false := by decide
  -- a row of no length, of a block
  have zero : ∀ k off c, n = 0 → ∃ v', aSlice P h t (.slice (some ⟨k, off, none⟩) 0 c) none (some (.int kd n)) none = some v' ∧ RowS h sz v' (rows.take n) ∧ (∀ a m c, v' = .slice (some a) m c → m ≠ 0 → ∃ a0 n0 c0, v = .slice (some a0) n0 c0 ∧ n0 ≠ 0 ∧ a.block = a0.block) := fun k off c hz => by
    subst hz
    cases ho : isOpn c with
    | true =>
      refine ⟨.slice (some ⟨k, off, none⟩) 0 c, ?_, .inr (.inl ⟨by simp, k, off, c, rfl⟩), fun a m c hv hm => by injection hv with _ e2; exact absurd e2.symm hm⟩
      simp only [aSlice, hu, hi, ho, cond_true, aBoundO]
      rw [bound_nat (Nat.le_refl 0)]
      simp
    | false =>
      refine ⟨_, ?_, .inr (.inl ⟨by simp, k, (bif Nat.beq c 0 then off else off + 0 * i.size), c - 0, rfl⟩), fun a m c hv hm => by injection hv with _ e2; exact absurd e2.symm hm⟩
      simp only [aSlice, hu, hi, ho, cond_false, aBoundO]
      rw [bound_nat (Nat.zero_le c)]
  rcases r with ⟨rfl, rfl⟩ | ⟨rfl, k, off, c, rfl⟩ | ⟨k, off, cap, cs, el, ro, rfl, hg, h1, h2⟩
  · have : n = 0 := by simpa using hn
    subst this
    refine ⟨.slice none 0 0, ?_, .inl ⟨rfl, by simp⟩, fun a m c hv => by cases hv⟩
    simp only [aSlice, hu, hi, hop0, cond_false, aBoundO]
    rw [bound_nat (Nat.le_refl 0)]
  · exact zero k off c (by simpa using hn)
  · by_cases hz : rows.length = 0
    · rw [hz]
      have := zero k off cap (by omega)
      rwa [hz] at this
    · obtain ⟨ho, hcl⟩ := hc _ _ _ rfl hz
      by_cases hn0 : n = 0
      · subst hn0
        refine ⟨_, ?_, .inr (.inl ⟨by simp, k, (bif Nat.beq cap 0 then off else off + 0 * i.size), cap - 0, rfl⟩), fun a m c hv hm => by injection hv with _ e2; exact absurd e2.symm hm⟩
        simp only [aSlice, hu, hi, ho, cond_false, aBoundO]
        rw [bound_nat (Nat.zero_le cap)]
      · have b0 : Nat.beq cap 0 = false := by
          cases hb : Nat.beq cap 0 with
          | false => rfl
          | true => have := Nat.eq_of_beq_eq_true hb; omega
        have hlt : (rows.take n).length = n := by rw [List.length_take]; omega
        have hmul : sz * n ≤ sz * rows.length := Nat.mul_le_mul_left _ hn
        refine ⟨.slice (some ⟨k, off, none⟩) n cap, ?_, .inr (.inr ⟨k, off, cap, cs, el, ro, by rw [hlt], hg, by rw [hlt]; omega, fun j hj => ?_⟩), fun a m c hv hm => ?_⟩
        · simp only [aSlice, hu, hi, ho, cond_false, aBoundO]
          rw [bound_nat (show n ≤ cap by omega)]
          simp only [b0, cond_false, Nat.zero_mul, Nat.add_zero, Nat.sub_zero]
        · rw [hlt] at hj
          rw [List.getElem_take, h2 j (by omega)]
        · injection hv with e1 e2; injection e1 with e1; subst e1
          exact ⟨_, _, _, rfl, hz, rfl⟩

theorem ard_cap {H : Type} {P : Program} {h : Heap} {n : Nat} {t e : TypeId} {v : Value} {d : DataW H} (hu : P.underlying t = some (.slice e)) (r : ARd P h (n + 1) t [v] d) : ∀ a n c, v = .slice (some a) n c → n ≠ 0 → isOpn c = false ∧ n ≤ c := by
  unfold ARd at r
  rw [hu] at r
  intro a m c hv hm
  rcases r with ⟨h1, _⟩ | ⟨sp, h1, _⟩ | ⟨k, cap, cells, el, es, sp, h1, hne, h3, h4, _⟩
  · injection h1 with h1; rw [h1] at hv; cases hv
  · injection h1 with h1; rw [h1] at hv; unfold slE at hv; injection hv with _ e2; exact absurd e2.symm hm
  · injection h1 with h1; rw [h1] at hv
    injection hv with _ e2 e3
    subst e2; subst e3
    refine ⟨?_, h4⟩
    cases hq : isOpn cap with
    | false => rfl
    | true =>
      have := ble_iff.1 hq
      have : maxLen < 1237940039285380274899124224 := by decide
      omega

/-- The walk's law for b[:hi]. -/
theorem WOps_slice1 {P : Program} {ops : Array Oper} {Q : List Value → Heap → Prop} {env : List Value} {h : Heap} {l : List Oper} {d : Option Tmp} {ty : TypeId} {ps : String} {af : Array Edge} {t : TypeId} {x hi : Operand} :
    WOps P ops Q (⟨d, .slice t x none (some hi) none, ty, ps, af, none⟩ :: l) env h = WV P ops Q l env h d (aSlice P h t (aEval env x) none (some (aEval env hi)) none) := (WOps_slice rfl)
end Go.AM
