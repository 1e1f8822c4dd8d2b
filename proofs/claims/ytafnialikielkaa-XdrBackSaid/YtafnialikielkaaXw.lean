/- What is written is read: plain facts about bytes. -/
import Derived.Test.YtafnialikielkaaXq
namespace Go.Proofs.Ytafnialikielkaa
open Go Go.AM
set_option linter.unusedSimpArgs false

/-- A number's bytes, as numbers. -/
def beI (v : Int) : Nat → List Int
  | 0 => []
  | k + 1 => IntKind.u8.wrap (v.fdiv (2 ^ (min (8 * (k : Int)).toNat IntKind.u64.bits))) :: beI v k
theorem beTo_beI (v : Int) : ∀ k, beTo v k = (beI v k).map (Value.int .u8)
  | 0 => rfl
  | k + 1 => by show beB v k :: beTo v k = _; rw [beTo_beI v k]; rfl
theorem beI_length (v : Int) : ∀ k, (beI v k).length = k
  | 0 => rfl
  | k + 1 => by simp [beI, beI_length v k]
theorem u8_range (x : Int) : 0 ≤ IntKind.u8.wrap x ∧ IntKind.u8.wrap x < 256 := by
  simp only [IntKind.wrap, IntKind.bits, IntKind.signed]
  simp
  omega
theorem beI_byte (v : Int) : ∀ k, ∀ b ∈ beI v k, 0 ≤ b ∧ b < 256
  | 0, b, h => by simp [beI] at h
  | k + 1, b, h => by
    rcases List.mem_cons.1 h with rfl | h
    · exact u8_range _
    · exact beI_byte v k b h

theorem digit (v k : Nat) (hk : k < 8) : IntKind.u8.wrap ((v : Int).fdiv (2 ^ (min (8 * (k : Int)).toNat IntKind.u64.bits))) = ((v / 256 ^ k % 256 : Nat) : Int) := by
  have e1 : (min (8 * (k : Int)).toNat IntKind.u64.bits) = 8 * k := by
    have : IntKind.u64.bits = 64 := rfl
    omega
  have e2 : (2 : Int) ^ (8 * k) = ((256 ^ k : Nat) : Int) := by
    rw [Int.pow_mul]; simp
  rw [e1, e2, Int.fdiv_eq_ediv_of_nonneg _ (Int.natCast_nonneg _), ← Int.natCast_ediv]
  simp only [IntKind.wrap, IntKind.bits, IntKind.signed]
  simp

theorem beF_beI (v : Nat) : ∀ (k a : Nat), a < 256 ^ (8 - k) → k ≤ 8 → beF a (beI v k) = ((a * 256 ^ k + v % 256 ^ k : Nat) : Int)
  | 0, a, _, _ => by simp [beI, beF, Nat.mod_one]
  | k + 1, a, ha, hk => by
    show beF (stepV a _) (beI v k) = _
    rw [digit v k (by omega)]
    have hd : v / 256 ^ k % 256 < 256 := Nat.mod_lt _ (by decide)
    generalize hdd : v / 256 ^ k % 256 = d at hd
    have hp : 256 ^ (8 - (k + 1)) ≤ 256 ^ 7 := Nat.pow_le_pow_right (by decide) (by omega)
    have e7 : (256 : Nat) ^ 7 = 72057594037927936 := by decide
    rw [stepV_eq a d (by omega) hd, beF_beI v k (a * 256 + d) (by
      have : 256 ^ (8 - k) = 256 ^ (8 - (k + 1)) * 256 := by rw [← Nat.pow_succ]; congr 1; omega
      omega) (by omega)]
    have := Nat.mod_pow_succ (x := v) (b := 256) (k := k)
    rw [this, hdd, Nat.add_mul, Nat.pow_succ, Nat.mul_assoc, Nat.mul_comm 256 (256 ^ k), Nat.mul_comm d]
    congr 1; omega

theorem beF_back (v n : Nat) (hn : n = 4 ∨ n = 8) (hv : v < 256 ^ n) : beF 0 (beI v n) = v := by
  have := beF_beI v n 0 (Nat.pow_pos (by decide)) (by omega)
  simp only [Nat.zero_mul, Nat.zero_add, Nat.mod_eq_of_lt hv] at this
  exact this

/-- Noughts, as numbers. -/
def padI (n : Nat) : List Int := List.replicate (pad n) 0
theorem padB_padI (n : Nat) : padB n = (padI n).map (Value.int .u8) := by simp [padB, padI]
theorem padI_length (n : Nat) : (padI n).length = pad n := by simp [padI]

section
variable {p q r s : List Int}

theorem rNum_at (v n : Nat) (hn : n = 4 ∨ n = 8) (hv : v < 256 ^ n) : rNum (p ++ (beI v n ++ q)) n (p.length, 0) = ((v : Int), p.length + n, 0) := by
  unfold rNum
  rw [if_neg (by simp), if_pos (by simp only [List.length_append, beI_length]; omega)]
  have : ((p ++ (beI v n ++ q)).drop p.length).take n = beI v n := by
    rw [List.drop_left]
    have := List.take_left (l₁ := beI v n) (l₂ := q)
    rwa [beI_length] at this
  rw [this, beF_back v n hn hv]

theorem rFixed_at (hr : r.length = pad q.length) : rFixed (p ++ (q ++ (r ++ s))) q.length (p.length, 0) = (if r.all (· == 0) then (q, p.length + q.length + r.length, 0) else ([], p.length, 15)) := by
  unfold rFixed
  have e1 : ((p ++ (q ++ (r ++ s))).drop (p.length + q.length)).take (pad q.length) = r := by
    rw [← List.append_assoc, ← List.length_append, List.drop_left, ← hr, List.take_left]
  have e2 : ((p ++ (q ++ (r ++ s))).drop p.length).take q.length = q := by rw [List.drop_left, List.take_left]
  rw [if_neg (by simp), if_neg (by omega), if_neg (by simp only [List.length_append, Int.toNat_natCast]; omega)]
  simp only [Int.toNat_natCast]
  rw [e1, e2, hr]

theorem rBytes_at (hq : q.length < 4294967296) (hr : r.length = pad q.length) (most : Int) : rBytes (p ++ (beI q.length 4 ++ (q ++ (r ++ s)))) most (p.length, 0) =
    if (q.length : Int) > most then ([], p.length, 5) else if r.all (· == 0) then (q, p.length + 4 + q.length + r.length, 0) else ([], p.length, 15) := by
  have e1 := rNum_at (p := p) (q := q ++ (r ++ s)) q.length 4 (.inl rfl) (by have : (256 : Nat) ^ 4 = 4294967296 := by decide
                                                                             omega)
  unfold rBytes
  rw [e1, if_neg (by simp)]
  split
  · rfl
  · have e2 := rFixed_at (p := p ++ beI q.length 4) (q := q) (s := s) hr
    rw [List.append_assoc, List.length_append, beI_length] at e2
    simp only
    rw [e2]
    split
    · rename_i h; simp [h]
    · rename_i h; simp [h]
end
theorem pad_all (n : Nat) : (padI n).all (· == 0) = true := by simp [padI]
theorem tmod_abs (a : Int) (n : Nat) (hn : 0 < n) : ∃ k : Nat, k < n ∧ (a.tmod n = k ∨ (a.tmod n < 0 ∧ 0 - a.tmod n = k)) := by
  have h := Int.natAbs_tmod a n
  have hk : (a.tmod n).natAbs < n := by rw [h]; simpa using Nat.mod_lt _ hn
  rcases Int.lt_or_le (a.tmod n) 0 with h0 | h0
  · exact ⟨(a.tmod n).natAbs, hk, .inr ⟨h0, by omega⟩⟩
  · exact ⟨(a.tmod n).natAbs, hk, .inl (by omega)⟩
end Go.Proofs.Ytafnialikielkaa
