/- The abstract machine, part 1: abstract heaps, their relation to a world, and how it is kept by a new block, by a write, by a draw. -/
import Derived.Test.YtafnialikielkaaAm0
namespace Go.AM
open Go

inductive Ent where
  | cells (cs : List Value) (elem : TypeId) (ro : Bool)
  | dead

inductive Tr where
  | nil
  | node (v : Option Ent) (l r : Tr)

def Tr.get : Tr → Nat → Option Ent
  | .nil, _ => none
  | .node v _ _, 0 => v
  | .node _ l r, n + 1 => bif Nat.beq (n % 2) 0 then l.get (n / 2) else r.get (n / 2)

def Tr.setF : Nat → Tr → Nat → Ent → Tr
  | _, .nil, 0, e => .node (some e) .nil .nil
  | _, .node _ l r, 0, e => .node (some e) l r
  | 0, t, _ + 1, _ => t
  | f + 1, .nil, n + 1, e => bif Nat.beq (n % 2) 0 then .node none (Tr.setF f .nil (n / 2) e) .nil else .node none .nil (Tr.setF f .nil (n / 2) e)
  | f + 1, .node v l r, n + 1, e => bif Nat.beq (n % 2) 0 then .node v (Tr.setF f l (n / 2) e) r else .node v l (Tr.setF f r (n / 2) e)

theorem Tr.get_nil (n : Nat) : Tr.nil.get n = none := by cases n <;> rfl

theorem Tr.get_setF : ∀ (f : Nat) (t : Tr) (n : Nat) (e : Ent) (j : Nat), n ≤ f → (Tr.setF f t n e).get j = if j = n then some e else t.get j
  | f, .nil, 0, e, j, _ => by
    cases j with
    | zero => cases f <;> simp [Tr.setF, Tr.get]
    | succ j => cases f <;> cases hj : Nat.beq (j % 2) 0 <;> simp [Tr.setF, Tr.get, hj, Tr.get_nil]
  | f, .node v l r, 0, e, j, _ => by
    cases j with
    | zero => cases f <;> simp [Tr.setF, Tr.get]
    | succ j => cases f <;> cases hj : Nat.beq (j % 2) 0 <;> simp [Tr.setF, Tr.get, hj]
  | 0, t, n + 1, _, _, h => by omega
  | f + 1, .nil, n + 1, e, j, h => by
    have ih := Tr.get_setF f .nil (n / 2) e
    cases j with
    | zero => cases hn : Nat.beq (n % 2) 0 <;> simp [Tr.setF, Tr.get, hn]
    | succ j =>
      cases hn : Nat.beq (n % 2) 0 <;> cases hj : Nat.beq (j % 2) 0 <;> simp [Tr.setF, Tr.get, hn, hj, Tr.get_nil]
      · rw [ih _ (by omega), Tr.get_nil]
        have h1 : n % 2 ≠ 0 := fun h => by simp [h] at hn
        have h2 : j % 2 ≠ 0 := fun h => by simp [h] at hj
        by_cases e : j = n
        · subst e; simp
        · rw [if_neg (by omega), if_neg e]
      · have h1 : n % 2 ≠ 0 := fun h => by simp [h] at hn
        have h2 : j % 2 = 0 := Nat.eq_of_beq_eq_true hj
        intro e; subst e; exact h1 h2
      · have h1 : n % 2 = 0 := Nat.eq_of_beq_eq_true hn
        have h2 : j % 2 ≠ 0 := fun h => by simp [h] at hj
        intro e; subst e; exact h2 h1
      · rw [ih _ (by omega), Tr.get_nil]
        have h1 : n % 2 = 0 := Nat.eq_of_beq_eq_true hn
        have h2 : j % 2 = 0 := Nat.eq_of_beq_eq_true hj
        by_cases e : j = n
        · subst e; simp
        · rw [if_neg (by omega), if_neg e]
  | f + 1, .node v l r, n + 1, e, j, h => by
    have ihl := Tr.get_setF f l (n / 2) e
    have ihr := Tr.get_setF f r (n / 2) e
    cases j with
    | zero => cases hn : Nat.beq (n % 2) 0 <;> simp [Tr.setF, Tr.get, hn]
    | succ j =>
      cases hn : Nat.beq (n % 2) 0 <;> cases hj : Nat.beq (j % 2) 0 <;> simp [Tr.setF, Tr.get, hn, hj]
      · rw [ihr _ (by omega)]
        have h1 : n % 2 ≠ 0 := fun h => by simp [h] at hn
        have h2 : j % 2 ≠ 0 := fun h => by simp [h] at hj
        by_cases e : j = n
        · subst e; simp
        · rw [if_neg (by omega), if_neg e]
      · have h1 : n % 2 ≠ 0 := fun h => by simp [h] at hn
        have h2 : j % 2 = 0 := Nat.eq_of_beq_eq_true hj
        intro e; subst e; exact absurd h2 h1
      · have h1 : n % 2 = 0 := Nat.eq_of_beq_eq_true hn
        have h2 : j % 2 ≠ 0 := fun h => by simp [h] at hj
        intro e; subst e; exact absurd h1 h2
      · rw [ihl _ (by omega)]
        have h1 : n % 2 = 0 := Nat.eq_of_beq_eq_true hn
        have h2 : j % 2 = 0 := Nat.eq_of_beq_eq_true hj
        by_cases e : j = n
        · subst e; simp
        · rw [if_neg (by omega), if_neg e]

structure Heap where
  tr : Tr
  next : Nat

def Heap.get (h : Heap) (k : Nat) : Option Ent := bif Nat.blt k h.next then h.tr.get k else none
def Heap.push (h : Heap) (e : Ent) : Heap := ⟨h.tr.setF h.next h.next e, h.next + 1⟩
def Heap.set (h : Heap) (k : Nat) (e : Ent) : Heap := bif Nat.blt k h.next then ⟨h.tr.setF k k e, h.next⟩ else h

theorem blt_true {a b : Nat} (h : a < b) : Nat.blt a b = true := by simp [Nat.blt]; omega
theorem blt_false {a b : Nat} (h : ¬ a < b) : Nat.blt a b = false := by
  cases e : Nat.blt a b with
  | false => rfl
  | true => exact absurd (Nat.lt_of_succ_le (by simpa [Nat.blt] using e)) h
theorem Heap.get_lt {h : Heap} {k : Nat} {e : Ent} (hg : h.get k = some e) : k < h.next := by
  unfold Heap.get at hg
  by_cases hk : k < h.next
  · exact hk
  · rw [blt_false hk] at hg; cases hg
theorem Heap.get_push (h : Heap) (e : Ent) (k : Nat) : (h.push e).get k = if k = h.next then some e else h.get k := by
  unfold Heap.get Heap.push
  by_cases hk : k < h.next
  · rw [blt_true (by simp only; omega), blt_true hk, if_neg (by omega)]
    simp only [cond_true]
    rw [Tr.get_setF _ _ _ _ _ (Nat.le_refl _), if_neg (by omega)]
  · by_cases hk' : k = h.next
    · subst hk'
      rw [blt_true (by simp only; omega), if_pos rfl]
      simp only [cond_true]
      rw [Tr.get_setF _ _ _ _ _ (Nat.le_refl _), if_pos rfl]
    · rw [blt_false (by simp only; omega), blt_false hk, if_neg hk']; rfl
theorem Heap.get_set (h : Heap) (k : Nat) (e : Ent) (j : Nat) : (h.set k e).get j = if j = k ∧ k < h.next then some e else h.get j := by
  unfold Heap.set
  by_cases hk : k < h.next
  · rw [blt_true hk]
    simp only [cond_true, Heap.get]
    rw [Tr.get_setF _ _ _ _ _ (Nat.le_refl _)]
    by_cases hj : j = k
    · subst hj; rw [blt_true hk]; simp [hk]
    · simp [hj]
  · rw [blt_false hk]
    simp only [cond_false]
    rw [if_neg (fun h' => hk h'.2)]
@[simp] theorem Heap.next_push (h : Heap) (e : Ent) : (h.push e).next = h.next + 1 := rfl
@[simp] theorem Heap.next_set (h : Heap) (k : Nat) (e : Ent) : (h.set k e).next = h.next := by
  unfold Heap.set; cases Nat.blt k h.next <;> rfl
theorem Heap.get_next (h : Heap) : h.get h.next = none := by
  unfold Heap.get; rw [blt_false (by omega)]; rfl

def Heap.live (h : Heap) (k : Nat) : Prop := ∃ cs el ro, h.get k = some (.cells cs el ro)
def Heap.writable (h : Heap) (k : Nat) : Prop := ∃ cs el, h.get k = some (.cells cs el false)
theorem Heap.writable.live {h : Heap} {k : Nat} (hw : h.writable k) : h.live k := let ⟨cs, el, e⟩ := hw; ⟨cs, el, false, e⟩

theorem fr_ok {lo hi n i : Nat} (h : lo = hi ∨ n ≤ lo) (hi' : i < n) : ¬ (lo ≤ i ∧ i < hi) := by omega

/-- The cells of one element. -/
def eszOf (P : Program) (el : TypeId) : Nat := ((P.info? el).map (·.size)).getD 0

/-- What an abstract block says of the block behind it. -/
def CellsOK (P : Program) (m : Mp) (w : World) (loc : Loc) (cs : List Value) (el : TypeId) (ro : Bool) : Prop :=
  ∃ c fr, w.heap[loc.blk]? = some (.cells c el fr) ∧ c.size = loc.csz ∧ loc.dl + cs.length ≤ loc.csz ∧ loc.esz = eszOf P el ∧
    (∀ (i : Nat) (v : Value), cs[i]? = some v → ∃ v', c[loc.dl + i]? = some v' ∧ VR m v v') ∧
    (ro = false → fr.1 = fr.2 ∨ c.size ≤ fr.1) ∧ (∀ (i : Nat) (v : Value), cs[i]? = some v → v.oneCell' = true)

structure Rel (P : Program) (m : Mp) (h : Heap) (w : World) : Prop where
  ent : ∀ k loc cs el ro, m k = some loc → h.get k = some (.cells cs el ro) → CellsOK P m w loc cs el ro
  inj : ∀ k k' loc loc', m k = some loc → m k' = some loc' → h.writable k → h.live k' → loc.blk = loc'.blk → k = k'
  inb : ∀ k loc, m k = some loc → loc.blk < w.heap.size
  fresh : ∀ k, h.next ≤ k → m k = none
  glob : ∀ g, g < P.globals.size → ∃ loc, m g = some loc ∧ loc.blk = g ∧ loc.dl = 0

def Own (m : Mp) (h : Heap) (cb : Nat) : Prop := ∃ k loc, m k = some loc ∧ loc.blk = cb ∧ h.writable k

structure Fr (m : Mp) (h : Heap) (w : World) (m' : Mp) (h' : Heap) (w' : World) : Prop where
  os : w'.os = w.os
  tape : w'.tape = w.tape
  output : w'.output = w.output
  size : w.heap.size ≤ w'.heap.size
  keep : ∀ cb, cb < w.heap.size → ¬ Own m h cb → w'.heap[cb]? = w.heap[cb]?
  own : ∀ cb, cb < w.heap.size → Own m' h' cb → Own m h cb
  le : m.le m'
  nx : h.next ≤ h'.next

theorem Fr.refl (m : Mp) (h : Heap) (w : World) : Fr m h w m h w := ⟨rfl, rfl, rfl, Nat.le_refl _, fun _ _ _ => rfl, fun _ _ h => h, Mp.le_refl m, Nat.le_refl _⟩
theorem Fr.trans {m m1 m2 : Mp} {h h1 h2 : Heap} {w w1 w2 : World} (a : Fr m h w m1 h1 w1) (b : Fr m1 h1 w1 m2 h2 w2) : Fr m h w m2 h2 w2 :=
  ⟨b.os.trans a.os, b.tape.trans a.tape, b.output.trans a.output, Nat.le_trans a.size b.size,
    fun cb hc ho => (b.keep cb (Nat.lt_of_lt_of_le hc a.size) (fun h' => ho (a.own cb hc h'))).trans (a.keep cb hc ho),
    fun cb hc ho => a.own cb hc (b.own cb (Nat.lt_of_lt_of_le hc a.size) ho), Mp.le_trans a.le b.le, Nat.le_trans a.nx b.nx⟩

def Mp.upd (m : Mp) (k : Nat) (loc : Loc) : Mp := fun j => if j = k then some loc else m j
theorem Mp.upd_same (m : Mp) (k : Nat) (loc : Loc) : m.upd k loc k = some loc := by simp [Mp.upd]
theorem Mp.upd_ne (m : Mp) (k : Nat) (loc : Loc) {j : Nat} (h : j ≠ k) : m.upd k loc j = m j := by simp [Mp.upd, h]
theorem Mp.le_upd {m : Mp} {k : Nat} (loc : Loc) (h : m k = none) : m.le (m.upd k loc) := fun j l hj => by
  rw [Mp.upd_ne m k loc (fun e => by subst e; rw [h] at hj; cases hj)]; exact hj

theorem CellsOK.mono {P : Program} {m m' : Mp} {w w' : World} {loc : Loc} {cs : List Value} {el : TypeId} {ro : Bool} (h : CellsOK P m w loc cs el ro) (hm : m.le m')
    (hw : w'.heap[loc.blk]? = w.heap[loc.blk]?) : CellsOK P m' w' loc cs el ro := by
  obtain ⟨c, fr, h1, h2, h3, h4, h5, h6, h7⟩ := h
  exact ⟨c, fr, hw.trans h1, h2, h3, h4, fun i v hv => let ⟨v', a, b⟩ := h5 i v hv; ⟨v', a, b.mono hm⟩, h6, h7⟩

section
variable {P : Program} {m : Mp} {h : Heap} {w : World}

/-- A draw. -/
theorem Rel.drew (R : Rel P m h w) : Rel P m h { w with drawn := w.drawn + 1 } := ⟨R.ent, R.inj, R.inb, R.fresh, R.glob⟩
theorem Fr.drew (m : Mp) (h : Heap) (w : World) : Fr m h w m h { w with drawn := w.drawn + 1 } := ⟨rfl, rfl, rfl, Nat.le_refl _, fun _ _ _ => rfl, fun _ _ h => h, Mp.le_refl m, Nat.le_refl _⟩

/-- A new block, which is the next abstract one. -/
theorem Rel.new (R : Rel P m h w) {w' : World} {c : Array Value} {el : TypeId} {fr : Nat × Nat} (hw : w'.heap = w.heap.push (.cells c el fr))
    {cs : List Value} (loc : Loc) (hb : loc.blk = w.heap.size) (hz : loc.csz = c.size) (hd : loc.dl = 0) (he : loc.esz = eszOf P el) (hl : cs.length ≤ c.size)
    (hcs : ∀ (i : Nat) (v : Value), cs[i]? = some v → ∃ v', c[i]? = some v' ∧ VR m v v') (hfr : fr.1 = fr.2 ∨ c.size ≤ fr.1)
    (h1 : ∀ (i : Nat) (v : Value), cs[i]? = some v → v.oneCell' = true) (hos : w'.os = w.os) (htape : w'.tape = w.tape) (hout : w'.output = w.output) :
    Rel P (m.upd h.next loc) (h.push (.cells cs el false)) w' ∧ Fr m h w (m.upd h.next loc) (h.push (.cells cs el false)) w' := by
  have hle : m.le (m.upd h.next loc) := Mp.le_upd loc (R.fresh _ (Nat.le_refl _))
  have hold : ∀ b, b < w.heap.size → w'.heap[b]? = w.heap[b]? := fun b hb => by rw [hw, Array.getElem?_push, if_neg (by omega)]
  have hsz : w'.heap.size = w.heap.size + 1 := by rw [hw]; simp
  constructor
  · constructor
    · intro k l cs2 el2 ro2 hk hg
      rw [Heap.get_push] at hg
      by_cases e : k = h.next
      · subst e
        rw [if_pos rfl] at hg
        rw [Mp.upd_same] at hk
        injection hk with hk; subst hk
        injection hg with hg; injection hg with e1 e2 e3; subst e1; subst e2; subst e3
        refine ⟨c, fr, by rw [hb, hw]; simp, hz.symm, by rw [hd, hz]; omega, he, fun i v hv => ?_, fun _ => hfr, h1⟩
        obtain ⟨v', a, b⟩ := hcs i v hv
        exact ⟨v', by rw [hd, Nat.zero_add]; exact a, b.mono hle⟩
      · rw [if_neg e] at hg
        rw [Mp.upd_ne _ _ _ e] at hk
        exact (R.ent k l cs2 el2 ro2 hk hg).mono hle (hold _ (R.inb _ _ hk))
    · intro k k' l l' hk hk' hv hv' hbb
      by_cases e : k = h.next
      · by_cases e' : k' = h.next
        · rw [e, e']
        · subst e
          rw [Mp.upd_same] at hk; injection hk with hk; subst hk
          rw [Mp.upd_ne _ _ _ e'] at hk'
          have := R.inb _ _ hk'
          omega
      · rw [Mp.upd_ne _ _ _ e] at hk
        by_cases e' : k' = h.next
        · subst e'
          rw [Mp.upd_same] at hk'; injection hk' with hk'; subst hk'
          have := R.inb _ _ hk
          omega
        · rw [Mp.upd_ne _ _ _ e'] at hk'
          refine R.inj k k' l l' hk hk' ?_ ?_ hbb
          · obtain ⟨a, b, hg⟩ := hv; rw [Heap.get_push, if_neg e] at hg; exact ⟨a, b, hg⟩
          · obtain ⟨a, b, c, hg⟩ := hv'; rw [Heap.get_push, if_neg e'] at hg; exact ⟨a, b, c, hg⟩
    · intro k l hk
      by_cases e : k = h.next
      · subst e; rw [Mp.upd_same] at hk; injection hk with hk; subst hk; omega
      · rw [Mp.upd_ne _ _ _ e] at hk; have := R.inb _ _ hk; omega
    · intro k hk
      simp only [Heap.next_push] at hk
      rw [Mp.upd_ne _ _ _ (by omega)]
      exact R.fresh k (by omega)
    · intro g hg
      obtain ⟨l, a, b, c⟩ := R.glob g hg
      exact ⟨l, hle _ _ a, b, c⟩
  · refine ⟨hos, htape, hout, by omega, fun cb hcb _ => hold cb hcb, fun cb hcb ho => ?_, hle, by simp⟩
    obtain ⟨k, l, hk, hl', cs2, el2, hg⟩ := ho
    by_cases e : k = h.next
    · subst e; rw [Mp.upd_same] at hk; injection hk with hk; subst hk; omega
    · rw [Mp.upd_ne _ _ _ e] at hk
      rw [Heap.get_push, if_neg e] at hg
      exact ⟨k, l, hk, hl', cs2, el2, hg⟩

/-- A write into a block that may be written. -/
theorem Rel.write (R : Rel P m h w) {k : Nat} {loc : Loc} {cs cs' : List Value} {el : TypeId} (hk : m k = some loc) (hg : h.get k = some (.cells cs el false)) {w' : World}
    (hsz : w'.heap.size = w.heap.size) (hold : ∀ b, b ≠ loc.blk → w'.heap[b]? = w.heap[b]?) (hok : CellsOK P m w' loc cs' el false)
    (hos : w'.os = w.os) (htape : w'.tape = w.tape) (hout : w'.output = w.output) :
    Rel P m (h.set k (.cells cs' el false)) w' ∧ Fr m h w m (h.set k (.cells cs' el false)) w' := by
  have hlt := Heap.get_lt hg
  have hlive : ∀ j, (h.set k (.cells cs' el false)).live j → h.live j := fun j hj => by
    obtain ⟨a, b, c, hh⟩ := hj
    rw [Heap.get_set] at hh
    by_cases e : j = k
    · subst e; exact ⟨_, _, _, hg⟩
    · rw [if_neg (fun x => e x.1)] at hh; exact ⟨a, b, c, hh⟩
  have hwr : ∀ j, (h.set k (.cells cs' el false)).writable j → h.writable j := fun j hj => by
    obtain ⟨a, b, hh⟩ := hj
    rw [Heap.get_set] at hh
    by_cases e : j = k
    · subst e; exact ⟨_, _, hg⟩
    · rw [if_neg (fun x => e x.1)] at hh; exact ⟨a, b, hh⟩
  constructor
  · constructor
    · intro j l cs2 el2 ro2 hj hgj
      rw [Heap.get_set] at hgj
      by_cases e : j = k
      · subst e
        rw [if_pos ⟨rfl, hlt⟩] at hgj
        rw [hk] at hj; injection hj with hj; subst hj
        injection hgj with hgj; injection hgj with e1 e2 e3; subst e1; subst e2; subst e3
        exact hok
      · rw [if_neg (fun x => e x.1)] at hgj
        refine (R.ent j l cs2 el2 ro2 hj hgj).mono (Mp.le_refl m) (hold _ fun hb => e ?_)
        exact (R.inj k j loc l hk hj ⟨_, _, hg⟩ ⟨_, _, _, hgj⟩ hb.symm).symm
    · exact fun a b la lb ha hb hva hvb hbb => R.inj a b la lb ha hb (hwr a hva) (hlive b hvb) hbb
    · exact fun a l ha => by rw [hsz]; exact R.inb a l ha
    · exact fun a ha => R.fresh a (by simpa using ha)
    · exact R.glob
  · refine ⟨hos, htape, hout, by omega, fun cb hcb ho => hold cb fun hb => ho ⟨k, loc, hk, hb.symm, cs, el, hg⟩, fun cb hcb ho => ?_, Mp.le_refl m, by simp⟩
    obtain ⟨j, l, hj, hl, hw⟩ := ho
    exact ⟨j, l, hj, hl, hwr j hw⟩

/-- A block is let go. -/
theorem Rel.kill (R : Rel P m h w) (k : Nat) : Rel P m (h.set k .dead) w ∧ Fr m h w m (h.set k .dead) w := by
  have get' : ∀ j e, (h.set k .dead).get j = some e → e = .dead ∨ h.get j = some e := fun j e hj => by
    rw [Heap.get_set] at hj
    split at hj
    · injection hj with hj; exact .inl hj.symm
    · exact .inr hj
  constructor
  · constructor
    · intro j l cs el ro hj hg
      rcases get' _ _ hg with h2 | h2
      · cases h2
      · exact R.ent j l cs el ro hj h2
    · intro a b la lb ha hb hva hvb hbb
      obtain ⟨x1, x2, h1⟩ := hva
      obtain ⟨y1, y2, y3, h2⟩ := hvb
      rcases get' _ _ h1 with h1 | h1
      · cases h1
      rcases get' _ _ h2 with h2 | h2
      · cases h2
      exact R.inj a b la lb ha hb ⟨_, _, h1⟩ ⟨_, _, _, h2⟩ hbb
    · exact R.inb
    · exact fun a ha => R.fresh a (by simpa using ha)
    · exact R.glob
  · refine ⟨rfl, rfl, rfl, Nat.le_refl _, fun _ _ _ => rfl, fun cb hcb ho => ?_, Mp.le_refl m, by simp⟩
    obtain ⟨j, l, hj, hl, a, b, hg⟩ := ho
    rcases get' _ _ hg with h2 | h2
    · cases h2
    · exact ⟨j, l, hj, hl, a, b, h2⟩

/-- An append in place: the elder abstract block is no more; a new one stands for the same block. -/
theorem Rel.regrow (R : Rel P m h w) {k : Nat} {loc : Loc} {cs : List Value} {el : TypeId} (hk : m k = some loc) (hg : h.get k = some (.cells cs el false)) {w' : World}
    (hsz : w'.heap.size = w.heap.size) (hold : ∀ b, b ≠ loc.blk → w'.heap[b]? = w.heap[b]?) (loc' : Loc) (hb : loc'.blk = loc.blk) {cs' : List Value} {el' : TypeId}
    (hok : ∀ m', m.le m' → CellsOK P m' w' loc' cs' el' false)
    (hos : w'.os = w.os) (htape : w'.tape = w.tape) (hout : w'.output = w.output) :
    Rel P (m.upd h.next loc') ((h.set k .dead).push (.cells cs' el' false)) w' ∧ Fr m h w (m.upd h.next loc') ((h.set k .dead).push (.cells cs' el' false)) w' := by
  have hlt := Heap.get_lt hg
  have hle : m.le (m.upd h.next loc') := Mp.le_upd loc' (R.fresh _ (Nat.le_refl _))
  have get' : ∀ j e, ((h.set k .dead).push (.cells cs' el' false)).get j = some e → (j = h.next ∧ e = .cells cs' el' false) ∨ (j ≠ h.next ∧ j = k ∧ e = .dead) ∨ (j ≠ h.next ∧ j ≠ k ∧ h.get j = some e) := fun j e hj => by
    rw [Heap.get_push, Heap.next_set] at hj
    by_cases e1 : j = h.next
    · rw [if_pos e1] at hj; injection hj with hj; exact .inl ⟨e1, hj.symm⟩
    · rw [if_neg e1, Heap.get_set] at hj
      by_cases e2 : j = k
      · rw [if_pos ⟨e2, hlt⟩] at hj; injection hj with hj; exact .inr (.inl ⟨e1, e2, hj.symm⟩)
      · rw [if_neg (fun x => e2 x.1)] at hj; exact .inr (.inr ⟨e1, e2, hj⟩)
  have key : ∀ j l, j ≠ k → m j = some l → h.live j → l.blk ≠ loc.blk := fun j l e2 hj hl hb => e2 (R.inj k j loc l hk hj ⟨_, _, hg⟩ hl hb.symm).symm
  constructor
  · constructor
    · intro j l cs2 el2 ro2 hj hgj
      rcases get' j _ hgj with ⟨e, h2⟩ | ⟨_, _, h2⟩ | ⟨e1, e2, h2⟩
      · subst e
        rw [Mp.upd_same] at hj; injection hj with hj; subst hj
        injection h2 with e1 e2 e3; subst e1; subst e2; subst e3
        exact hok _ hle
      · cases h2
      · rw [Mp.upd_ne _ _ _ e1] at hj
        exact (R.ent j l cs2 el2 ro2 hj h2).mono hle (hold _ (key j l e2 hj ⟨_, _, _, h2⟩))
    · intro a b la lb ha hb' hva hvb hbb
      obtain ⟨x1, x2, hga⟩ := hva
      obtain ⟨y1, y2, y3, hgb⟩ := hvb
      rcases get' a _ hga with ⟨e, h2⟩ | ⟨_, _, h2⟩ | ⟨e1, e2, h2⟩
      · rcases get' b _ hgb with ⟨e', h3⟩ | ⟨_, _, h3⟩ | ⟨e1', e2', h3⟩
        · rw [e, e']
        · cases h3
        · exfalso
          rw [Mp.upd_ne _ _ _ e1'] at hb'
          subst e; rw [Mp.upd_same] at ha; injection ha with ha; subst ha
          exact key b lb e2' hb' ⟨_, _, _, h3⟩ (by rw [← hbb, hb])
      · cases h2
      · rw [Mp.upd_ne _ _ _ e1] at ha
        rcases get' b _ hgb with ⟨e', h3⟩ | ⟨_, _, h3⟩ | ⟨e1', e2', h3⟩
        · exfalso
          subst e'; rw [Mp.upd_same] at hb'; injection hb' with hb'; subst hb'
          exact key a la e2 ha ⟨_, _, _, h2⟩ (by rw [hbb, hb])
        · cases h3
        · rw [Mp.upd_ne _ _ _ e1'] at hb'
          exact R.inj a b la lb ha hb' ⟨_, _, h2⟩ ⟨_, _, _, h3⟩ hbb
    · intro a l ha
      by_cases e : a = h.next
      · subst e; rw [Mp.upd_same] at ha; injection ha with ha; subst ha; rw [hsz, hb]; exact R.inb _ _ hk
      · rw [Mp.upd_ne _ _ _ e] at ha; rw [hsz]; exact R.inb _ _ ha
    · intro a ha
      simp only [Heap.next_push, Heap.next_set] at ha
      rw [Mp.upd_ne _ _ _ (by omega)]
      exact R.fresh a (by omega)
    · intro g hg
      obtain ⟨l, a, b, c⟩ := R.glob g hg
      exact ⟨l, hle _ _ a, b, c⟩
  · refine ⟨hos, htape, hout, by omega, fun cb hcb ho => hold cb fun hb => ho ⟨k, loc, hk, hb.symm, cs, el, hg⟩, fun cb hcb ho => ?_, hle, by simp⟩
    obtain ⟨j, l, hj, hl, a, b, hgj⟩ := ho
    rcases get' j _ hgj with ⟨e, h2⟩ | ⟨_, _, h2⟩ | ⟨e1, e2, h2⟩
    · subst e; rw [Mp.upd_same] at hj; injection hj with hj; subst hj
      exact ⟨k, loc, hk, hb.symm.trans hl, cs, el, hg⟩
    · cases h2
    · rw [Mp.upd_ne _ _ _ e1] at hj
      exact ⟨j, l, hj, hl, a, b, h2⟩

/-- Of an abstract heap only what is read counts. -/
theorem Rel.congr {h2 : Heap} (R : Rel P m h w) (hg : ∀ j, h2.get j = h.get j) (hn : h2.next = h.next) : Rel P m h2 w := by
  have hw : ∀ k, h2.writable k → h.writable k := fun k ⟨a, b, e⟩ => ⟨a, b, by rw [← hg]; exact e⟩
  have hl : ∀ k, h2.live k → h.live k := fun k ⟨a, b, c, e⟩ => ⟨a, b, c, by rw [← hg]; exact e⟩
  exact ⟨fun k loc cs el ro hk h => R.ent k loc cs el ro hk (by rw [← hg]; exact h), fun a b la lb ha hb hva hvb => R.inj a b la lb ha hb (hw a hva) (hl b hvb), R.inb, fun k hk => R.fresh k (by rw [← hn]; exact hk), R.glob⟩

/-- A block that may be written is touched, and reads as it did. -/
theorem Rel.touch (R : Rel P m h w) {k : Nat} {loc : Loc} {cs : List Value} {el : TypeId} (hk : m k = some loc) (hg : h.get k = some (.cells cs el false)) {w' : World}
    (hsz : w'.heap.size = w.heap.size) (hold : ∀ b, b ≠ loc.blk → w'.heap[b]? = w.heap[b]?) (hok : CellsOK P m w' loc cs el false)
    (hos : w'.os = w.os) (htape : w'.tape = w.tape) (hout : w'.output = w.output) : Rel P m h w' ∧ Fr m h w m h w' := by
  obtain ⟨R', F'⟩ := R.write hk hg hsz hold hok hos htape hout
  have hlt := Heap.get_lt hg
  have hge : ∀ j, h.get j = (h.set k (.cells cs el false)).get j := fun j => by
    rw [Heap.get_set]
    split
    · rename_i e; rw [e.1, hg]
    · rfl
  refine ⟨R'.congr hge (by simp), ⟨hos, htape, hout, F'.size, F'.keep, fun cb hcb ho => ?_, Mp.le_refl m, Nat.le_refl _⟩⟩
  exact ho
end
end Go.AM
