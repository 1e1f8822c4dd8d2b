/- The law that what was written is read again, over the abstract machine. -/
import Derived.Test.YtafnialikielkaaXy
import Derived.Test.YtafnialikielkaaAm22
namespace Go.Proofs.Ytafnialikielkaa
open Go Go.AM
set_option linter.unusedSimpArgs false

/-! ### the plain law -/
/-- An item's bytes, as numbers. -/
def It2.bytes (i : It2) : List Int :=
  if i.k = 1 then beI (IntKind.u32.wrap i.V) 4 else if i.k = 2 then beI i.V 8 else if i.k = 3 then beI (if i.on then 1 else 0) 4 else if i.k = 4 then beI i.xs.length 4 ++ (i.xs ++ padI i.xs.length) else i.xs ++ padI i.xs.length
theorem It2.bytes_eq (i : It2) : itemB i.k i.V i.on (i.xs.map (Value.int .u8)) = i.bytes.map (Value.int .u8) := by
  unfold itemB It2.bytes
  split
  · exact beTo_beI _ _
  split
  · exact beTo_beI _ _
  split
  · exact beTo_beI _ _
  split
  · simp [beTo_beI, padB_padI]
  · simp [padB_padI]
theorem It2.bytes_byte (i : It2) (hb : ∀ b ∈ i.xs, 0 ≤ b ∧ b < 256) : ∀ b ∈ i.bytes, 0 ≤ b ∧ b < 256 := by
  have hp : ∀ b ∈ i.xs ++ padI i.xs.length, 0 ≤ b ∧ b < 256 := fun b hh => by
    rcases List.mem_append.1 hh with hh | hh
    · exact hb b hh
    · have := (List.mem_replicate.1 hh).2; omega
  intro b hh
  unfold It2.bytes at hh
  split at hh
  · exact beI_byte _ _ _ hh
  split at hh
  · exact beI_byte _ _ _ hh
  split at hh
  · exact beI_byte _ _ _ hh
  split at hh
  · rcases List.mem_append.1 hh with hh | hh
    · exact beI_byte _ _ _ hh
    · exact hp b hh
  · exact hp b hh
theorem It2.bytes_four (i : It2) : i.bytes.length % 4 = 0 := by
  unfold It2.bytes
  split
  · rw [beI_length]
  split
  · rw [beI_length]
  split
  · rw [beI_length]
  split
  · simp only [List.length_append, beI_length, padI_length]; unfold pad; omega
  · simp only [List.length_append, padI_length]; unfold pad; omega
theorem It2.bytes_le (i : It2) : i.bytes.length ≤ i.xs.length + 11 := by
  have := pad_le i.xs.length
  unfold It2.bytes
  split
  · rw [beI_length]; omega
  split
  · rw [beI_length]; omega
  split
  · rw [beI_length]; omega
  split
  · simp only [List.length_append, beI_length, padI_length]; omega
  · simp only [List.length_append, padI_length]; omega

theorem rNum_at' {p q : List Int} {x : Int} (n : Nat) (hn : n = 4 ∨ n = 8) (h0 : 0 ≤ x) (hv : x < ((256 ^ n : Nat) : Int)) : rNum (p ++ (beI x n ++ q)) n (p.length, 0) = (x, p.length + n, 0) := by
  obtain ⟨v, rfl⟩ : ∃ v : Nat, x = v := ⟨x.toNat, by omega⟩
  exact rNum_at v n hn (by omega)

/-- An item is read where it was written. -/
theorem rGood_at (i : It2) (hV1 : 0 ≤ i.V) (hV2 : i.V < 18446744073709551616) (hx : i.xs.length < 4294967296) (p q : List Int) : rGood (p ++ (i.bytes ++ q)) i (p.length, 0) = (true, (p ++ i.bytes).length, 0) := by
  have e4 : ((256 ^ 4 : Nat) : Int) = 4294967296 := by decide
  have e8 : ((256 ^ 8 : Nat) : Int) = 18446744073709551616 := by decide
  unfold rGood It2.bytes
  by_cases c1 : i.k = 1
  · rw [if_pos c1, if_pos c1, rNum_at' 4 (.inl rfl) (wrap_u32_range i.V).1 (by rw [e4]; exact (wrap_u32_range i.V).2)]
    have : IntKind.u32.wrap (IntKind.u32.wrap i.V) = IntKind.u32.wrap i.V := wrap_u32 (wrap_u32_range i.V).1 (wrap_u32_range i.V).2
    simp [this, beI_length]
  rw [if_neg c1, if_neg c1]
  by_cases c2 : i.k = 2
  · rw [if_pos c2, if_pos c2, rNum_at' 8 (.inr rfl) hV1 (by rw [e8]; exact hV2)]
    simp [beI_length]
  rw [if_neg c2, if_neg c2]
  by_cases c3 : i.k = 3
  · rw [if_pos c3, if_pos c3]
    have e : rNum (p ++ (beI (if i.on then 1 else 0) 4 ++ q)) 4 (p.length, 0) = ((if i.on then 1 else 0), p.length + 4, 0) := rNum_at' 4 (.inl rfl) (by split <;> omega) (by rw [e4]; split <;> omega)
    have e2 : rBool (p ++ (beI (if i.on then 1 else 0) 4 ++ q)) (p.length, 0) = (i.on, p.length + 4, 0) := by
      unfold rBool
      rw [e, if_neg (by simp only; split <;> omega)]
      cases i.on <;> rfl
    rw [e2]
    simp [beI_length]
  rw [if_neg c3, if_neg c3]
  by_cases c4 : i.k = 4
  · rw [if_pos c4, if_pos c4]
    have e := rBytes_at (p := p) (q := i.xs) (r := padI i.xs.length) (s := q) hx (padI_length _) i.xs.length
    rw [if_neg (by omega), if_pos (pad_all _)] at e
    rw [List.append_assoc, List.append_assoc, e]
    simp only [strEq_self, List.length_append, beI_length, padI_length]
    congr 2; omega
  · rw [if_neg c4, if_neg c4]
    have e := rFixed_at (p := p) (q := i.xs) (r := padI i.xs.length) (s := q) (padI_length _)
    rw [if_pos (pad_all _)] at e
    rw [List.append_assoc, e]
    simp only [strEq_self, List.length_append, padI_length]
    congr 2; omega

/-- What was written is read again, to the end. -/
theorem rBack_all : ∀ (its : List It2) (p : List Int), (∀ i ∈ its, 0 ≤ i.V ∧ i.V < 18446744073709551616 ∧ i.xs.length < 4294967296) → rBack (p ++ its.flatMap It2.bytes) its (p.length, 0) = true
  | [], p, _ => by simp [rBack]
  | i :: its, p, h => by
    have hi := h i (by simp)
    have e := rGood_at i hi.1 hi.2.1 hi.2.2 p (its.flatMap It2.bytes)
    rw [List.flatMap_cons]
    unfold rBack
    rw [e]
    have ih := rBack_all its (p ++ i.bytes) (fun j hj => h j (by simp [hj]))
    rw [List.append_assoc] at ih
    simpa using ih

theorem rNum_step {bs : List Int} {n : Nat} {s : Nat × Int} (hs : s.2 = 0) (he : (rNum bs n s).2.2 = 0) : (rNum bs n s).2.1 = s.1 + n := by
  unfold rNum at he ⊢
  rw [if_neg (by simp [hs])] at he ⊢
  split
  · rfl
  · rename_i h; rw [if_neg h] at he; simp at he
theorem rFixed_step {bs : List Int} {n : Int} {s : Nat × Int} (hs : s.2 = 0) (hp : s.1 ≤ bs.length) (he : (rFixed bs n s).2.2 = 0) : 0 ≤ n ∧ (rFixed bs n s).1.length = n.toNat ∧ (rFixed bs n s).2.1 = s.1 + n.toNat + pad n.toNat := by
  unfold rFixed at he ⊢
  rw [if_neg (by simp [hs])] at he ⊢
  by_cases h1 : n < 0
  · rw [if_pos h1] at he; simp at he
  rw [if_neg h1] at he ⊢
  by_cases h2 : bs.length < s.1 + n.toNat + pad n.toNat
  · rw [if_pos h2] at he; simp at he
  rw [if_neg h2] at he ⊢
  split
  · refine ⟨by omega, ?_, rfl⟩
    simp only [List.length_take, List.length_drop]; omega
  · rename_i h3; rw [if_neg h3] at he; simp at he

/-- Where an item is read, its bytes were passed. -/
theorem rGood_step {bs : List Int} {i : It2} {s : Nat × Int} (hs : s.2 = 0) (hp : s.1 ≤ bs.length) (hg : (rGood bs i s).1 = true) (he : (rGood bs i s).2.2 = 0) : (rGood bs i s).2.1 = s.1 + i.bytes.length ∧ (rGood bs i s).2.1 ≤ bs.length := by
  unfold rGood at hg he ⊢
  unfold It2.bytes
  by_cases c1 : i.k = 1
  · rw [if_pos c1] at hg he ⊢
    rw [if_pos c1]
    exact ⟨by rw [rNum_step hs he, beI_length], rNum_pos 4 hp⟩
  rw [if_neg c1] at hg he ⊢
  rw [if_neg c1]
  by_cases c2 : i.k = 2
  · rw [if_pos c2] at hg he ⊢
    rw [if_pos c2]
    exact ⟨by rw [rNum_step hs he, beI_length], rNum_pos 8 hp⟩
  rw [if_neg c2] at hg he ⊢
  rw [if_neg c2]
  by_cases c3 : i.k = 3
  · rw [if_pos c3] at hg he ⊢
    rw [if_pos c3]
    unfold rBool at he ⊢
    by_cases h1 : (rNum bs 4 s).1 > 1
    · rw [if_pos h1] at he; simp at he
    · rw [if_neg h1] at he ⊢
      exact ⟨by rw [rNum_step hs he, beI_length], rNum_pos 4 hp⟩
  rw [if_neg c3] at hg he ⊢
  rw [if_neg c3]
  by_cases c4 : i.k = 4
  · rw [if_pos c4] at hg he ⊢
    rw [if_pos c4]
    have hl := strEq_length hg
    simp only at hl he ⊢
    unfold rBytes at hl he ⊢
    by_cases h1 : (rNum bs 4 s).2.2 ≠ 0
    · rw [if_pos h1] at he; exact absurd he h1
    rw [if_neg h1] at hl he ⊢
    have h1' : (rNum bs 4 s).2.2 = 0 := by omega
    by_cases h2 : (rNum bs 4 s).1 > (i.xs.length : Int)
    · rw [if_pos h2] at he; simp at he
    rw [if_neg h2] at hl he ⊢
    by_cases h3 : (rFixed bs (rNum bs 4 s).1 (rNum bs 4 s).2).2.2 ≠ 0
    · rw [if_pos h3] at he; exact absurd he h3
    rw [if_neg h3] at hl he ⊢
    have ep := rNum_step hs h1'
    obtain ⟨f1, f2, f3⟩ := rFixed_step h1' (rNum_pos 4 hp) he
    refine ⟨?_, rFixed_pos _ _ _ (rNum_pos 4 hp)⟩
    rw [f3, ep]
    simp only [List.length_append, beI_length, padI_length]
    rw [f2] at hl
    rw [hl]; omega
  · rw [if_neg c4] at hg he ⊢
    rw [if_neg c4]
    obtain ⟨f1, f2, f3⟩ := rFixed_step hs hp he
    refine ⟨?_, rFixed_pos _ _ _ hp⟩
    simp only at f3 ⊢
    rw [f3]
    simp only [List.length_append, padI_length, Int.toNat_natCast]; omega

/-- Where all is read, the bytes are as many as were written. -/
theorem rBack_length : ∀ (its : List It2) (bs : List Int) (s : Nat × Int), s.2 = 0 → s.1 ≤ bs.length → rBack bs its s = true → bs.length = s.1 + (its.flatMap It2.bytes).length
  | [], bs, s, _, _, h => by simp [rBack] at h; simp; omega
  | i :: its, bs, s, hs, hp, h => by
    unfold rBack at h
    split at h
    · rename_i hc
      simp only [Bool.and_eq_true, beq_iff_eq] at hc
      obtain ⟨a, b⟩ := rGood_step hs hp hc.1 hc.2
      have := rBack_length its bs _ hc.2 b h
      rw [List.flatMap_cons, List.length_append]
      omega
    · cases h
theorem flat_four : ∀ its : List It2, (its.flatMap It2.bytes).length % 4 = 0
  | [] => rfl
  | i :: its => by
    have := flat_four its
    have := i.bytes_four
    rw [List.flatMap_cons, List.length_append]; omega

/-- A cut row cannot be read whole. -/
theorem rBack_cut (its : List It2) (k : Nat) (hk : k < (its.flatMap It2.bytes).length) : rBack ((its.flatMap It2.bytes).take k) its (0, 0) = false := by
  cases h : rBack ((its.flatMap It2.bytes).take k) its (0, 0) with
  | false => rfl
  | true =>
    have := rBack_length its _ _ rfl (Nat.zero_le _) h
    rw [List.length_take] at this
    omega
end Go.Proofs.Ytafnialikielkaa
