/- Bytes as strings, over the abstract machine. -/
import Derived.Test.YtafnialikielkaaXg
import Derived.Test.YtafnialikielkaaAm20
namespace Go.Proofs.Ytafnialikielkaa
open Go Go.AM
set_option linter.unusedSimpArgs false

/-- Bytes, as a string. -/
def strS (bs : List Value) : ByteArray := match intsOf bs with
  | some ns => strOfNums ns
  | none => .empty
def isB (bs : List Value) : Prop := ∃ ns, intsOf bs = some ns

theorem conv_row {h : Heap} {v : Value} {bs : List Value} (r : Row h v bs) (hb : isB bs) : aConv Try.prog h 27 9 v = some (.string (strS bs), h) := by
  obtain ⟨ns, hn⟩ := hb
  have e0 : strS [] = .empty := by rfl
  rcases r with ⟨rfl, rfl⟩ | ⟨rfl, k, off, c, rfl⟩ | ⟨k, off, cap, cs, el, ro, rfl, hg, h1, h2⟩
  · simp only [aConv, Try.underlying27, Try.underlying9, Try.underlying5, e0]
  · simp only [aConv, Try.underlying27, Try.underlying9, Try.underlying5, e0, Nat.beq_refl, cond_true]
  · simp only [aConv, Try.underlying27, Try.underlying9, Try.underlying5]
    cases hz : Nat.beq bs.length 0 with
    | true =>
      have := List.eq_nil_of_length_eq_zero (Nat.eq_of_beq_eq_true hz)
      subst this
      rw [cond_true, e0]
    | false =>
      have hr : rdN h k off bs.length = some bs := by
        simp only [rdN, hg, ble_iff.2 h1, cond_true, h2]
      simp only [cond_false, hr, hn, strS]

/-- A byte row of our own, taken to its own type. -/
theorem conv_self {h : Heap} {k off n c : Nat} {cs : List Value} {el : TypeId} (hg : h.get k = some (.cells cs el false)) (hc : Nat.beq c 2535301200456458802993406410752 = false) : aConv Try.prog h 27 27 (.slice (some ⟨k, off, none⟩) n c) = some (.slice (some ⟨k, off, none⟩) n c, h) := by
  have e : Nat.beq 27 27 = true := rfl
  simp [aConv, Try.underlying27, Try.underlying5, hg, hc, e]

theorem str_eq {x y : ByteArray} {xo yo : Operand} : aBin Try.prog .eql 9 xo yo (.string x) (.string y) = some (.bool (x.data.toList == y.data.toList)) := rfl
theorem str_neq {x y : ByteArray} {xo yo : Operand} : aBin Try.prog .neq 9 xo yo (.string x) (.string y) = some (.bool (!(x.data.toList == y.data.toList))) := rfl
theorem intsOf_append : ∀ (a b : List Value) (x y : List Int), intsOf a = some x → intsOf b = some y → intsOf (a ++ b) = some (x ++ y)
  | [], b, x, y, ha, hb => by injection ha with ha; subst ha; exact hb
  | v :: a, b, x, y, ha, hb => by
    simp only [intsOf] at ha
    split at ha
    · rename_i n
      split at ha
      · rename_i r hr
        injection ha with ha; subst ha
        simp only [List.cons_append, intsOf, intsOf_append a b r y hr hb]
      · cases ha
    · cases ha
theorem isB.append {a b : List Value} (ha : isB a) (hb : isB b) : isB (a ++ b) := by
  obtain ⟨x, hx⟩ := ha; obtain ⟨y, hy⟩ := hb
  exact ⟨_, intsOf_append a b x y hx hy⟩
theorem isB.nil : isB [] := ⟨[], rfl⟩
theorem isB.cons {n : Int} {b : List Value} (hb : isB b) : isB (.int .u8 n :: b) := by
  obtain ⟨y, hy⟩ := hb
  exact ⟨n :: y, by simp only [intsOf, hy]⟩
theorem isB.beTo (v : Int) : ∀ n, isB (beTo v n)
  | 0 => .nil
  | n + 1 => .cons (isB.beTo v n)
theorem isB.noughts : ∀ n, isB (List.replicate n (.int .u8 0))
  | 0 => .nil
  | n + 1 => by rw [List.replicate_succ]; exact .cons (isB.noughts n)
theorem isB.all {a : List Value} (ha : isB a) : a.all Value.oneCell' = true := by
  obtain ⟨x, hx⟩ := ha
  rw [intsOf_eq a x hx]
  simp [Value.oneCell']
end Go.Proofs.Ytafnialikielkaa
