/- The abstract machine, part 0: values up to a renaming of blocks, abstract heaps, the relation between an abstract heap and a world. Nothing here is about one program. -/
import Derived.Calls
import Derived.Laws.Append
import Derived.Laws.AppendOwn
import Derived.Laws.IdiomCopy
import Derived.Laws.Cells
import Derived.Laws.World
import Derived.Laws.Entries
namespace Go.AM
open Go

/-- Where an abstract block lies: the block, by how much its cells are moved, how many cells the block has, the size of an element. -/
structure Loc where
  blk : Nat
  dl : Nat
  csz : Nat
  esz : Nat

abbrev Mp := Nat → Option Loc

/-- The capacity of a slice whose capacity is not known. -/
def opnCap : Nat := 1267650600228229401496703205376
def isOpn (c : Nat) : Bool := Nat.ble 1237940039285380274899124224 c

/-- An empty slice that is not nil, of which nothing else is known. -/
def slE : Value := .slice (some ⟨0, 0, none⟩) 0 2535301200456458802993406410752

def fnPlain : Fn → Bool
  | .yield _ => false
  | _ => true

inductive VR (m : Mp) : Value → Value → Prop
  | bool (b : Bool) : VR m (.bool b) (.bool b)
  | int (k : IntKind) (n : Int) : VR m (.int k n) (.int k n)
  | float (k : FloatKind) (b : Nat) : VR m (.float k b) (.float k b)
  | complex (k : FloatKind) (a b : Nat) : VR m (.complex k a b) (.complex k a b)
  | string (s : ByteArray) : VR m (.string s) (.string s)
  | ptrNil : VR m (.pointer none) (.pointer none)
  | ptr (k off : Nat) (loc : Loc) (h : m k = some loc) : VR m (.pointer (some ⟨k, off, none⟩)) (.pointer (some ⟨loc.blk, loc.dl + off, none⟩))
  | slNil : VR m (.slice none 0 0) (.slice none 0 0)
  | sl (k off len cap : Nat) (loc : Loc) (h : m k = some loc) (hc : isOpn cap = false) :
      VR m (.slice (some ⟨k, off, none⟩) len cap) (.slice (some ⟨loc.blk, loc.dl + off, none⟩) len cap)
  | slOpn (k off len cap cap' : Nat) (loc : Loc) (h : m k = some loc) (hc : isOpn cap = true) (hl : len ≤ cap') (hz : loc.dl + off + cap' * loc.esz = loc.csz) (hm : cap' ≤ maxLen) :
      VR m (.slice (some ⟨k, off, none⟩) len cap) (.slice (some ⟨loc.blk, loc.dl + off, none⟩) len cap')
  | slEmp (a : Addr) (c : Nat) : VR m slE (.slice (some a) 0 c)
  | mapNil : VR m (.map none) (.map none)
  | map (k : Nat) (loc : Loc) (h : m k = some loc) : VR m (.map (some k)) (.map (some loc.blk))
  | func (fn : Fn) (f c f' c' : Array Value) (hp : fnPlain fn = true) (hf : f.size = f'.size) (hc : c.size = c'.size)
      (hfs : ∀ (i : Nat) (v v' : Value), f[i]? = some v → f'[i]? = some v' → VR m v v') (hcs : ∀ (i : Nat) (v v' : Value), c[i]? = some v → c'[i]? = some v' → VR m v v') : VR m (.func fn f c) (.func fn f' c')
  | nilFunc : VR m .nilFunc .nilFunc
  | iface (t : TypeId) (v v' : Value) (h : VR m v v') : VR m (.iface t v) (.iface t v')
  | nilIface : VR m .nilIface .nilIface
  | agg (c c' : Array Value) (hc : c.size = c'.size) (hs : ∀ (i : Nat) (v v' : Value), c[i]? = some v → c'[i]? = some v' → VR m v v') : VR m (.agg c) (.agg c')
  | tuple (c c' : Array Value) (hc : c.size = c'.size) (hs : ∀ (i : Nat) (v v' : Value), c[i]? = some v → c'[i]? = some v' → VR m v v') : VR m (.tuple c) (.tuple c')

def Mp.le (m m' : Mp) : Prop := ∀ k loc, m k = some loc → m' k = some loc

theorem Mp.le_refl (m : Mp) : m.le m := fun _ _ h => h
theorem Mp.le_trans {a b c : Mp} (h : a.le b) (h' : b.le c) : a.le c := fun k l e => h' k l (h k l e)

theorem VR.mono {m m' : Mp} (hm : m.le m') {v v' : Value} (h : VR m v v') : VR m' v v' := by
  induction h with
  | bool b => exact .bool b
  | int k n => exact .int k n
  | float k b => exact .float k b
  | complex k a b => exact .complex k a b
  | string s => exact .string s
  | ptrNil => exact .ptrNil
  | ptr k off loc h => exact .ptr k off loc (hm _ _ h)
  | slNil => exact .slNil
  | sl k off len cap loc h hc => exact .sl k off len cap loc (hm _ _ h) hc
  | slOpn k off len cap cap' loc h hc hl hz hx => exact .slOpn k off len cap cap' loc (hm _ _ h) hc hl hz hx
  | slEmp a c => exact .slEmp a c
  | mapNil => exact .mapNil
  | map k loc h => exact .map k loc (hm _ _ h)
  | func fn f c f' c' hp hf hc _ _ ihf ihc => exact .func fn f c f' c' hp hf hc ihf ihc
  | nilFunc => exact .nilFunc
  | iface t v v' _ ih => exact .iface t v v' ih
  | nilIface => exact .nilIface
  | agg c c' hc _ ih => exact .agg c c' hc ih
  | tuple c c' hc _ ih => exact .tuple c c' hc ih

/-- Lists of values, one by one. -/
def VRs (m : Mp) (l l' : List Value) : Prop := l.length = l'.length ∧ ∀ (i : Nat) v v', l[i]? = some v → l'[i]? = some v' → VR m v v'

theorem VRs.nil (m : Mp) : VRs m [] [] := ⟨rfl, fun i v v' h _ => by simp at h⟩
theorem VRs.cons {m : Mp} {v v' : Value} {l l' : List Value} (h : VR m v v') (hl : VRs m l l') : VRs m (v :: l) (v' :: l') :=
  ⟨by simp [hl.1], fun i a b ha hb => by
    cases i with
    | zero => simp at ha hb; subst ha; subst hb; exact h
    | succ i => exact hl.2 i a b (by simpa using ha) (by simpa using hb)⟩
theorem VRs.mono {m m' : Mp} (hm : m.le m') {l l' : List Value} (h : VRs m l l') : VRs m' l l' := ⟨h.1, fun i v v' a b => (h.2 i v v' a b).mono hm⟩
theorem VRs.cons_inv {m : Mp} {v : Value} {l k : List Value} (h : VRs m (v :: l) k) : ∃ v' l', k = v' :: l' ∧ VR m v v' ∧ VRs m l l' := by
  cases k with
  | nil => simp [VRs] at h
  | cons v' l' => exact ⟨v', l', rfl, h.2 0 v v' rfl rfl, ⟨by simpa [VRs] using h.1, fun i a b ha hb => h.2 (i + 1) a b (by simpa using ha) (by simpa using hb)⟩⟩
theorem VRs.nil_inv {m : Mp} {k : List Value} (h : VRs m [] k) : k = [] := by
  cases k with
  | nil => rfl
  | cons v' l' => simp [VRs] at h
theorem VRs.append {m : Mp} {a b a' b' : List Value} (h : VRs m a a') (h' : VRs m b b') : VRs m (a ++ b) (a' ++ b') := by
  refine ⟨by simp [h.1, h'.1], fun i v v' hv hv' => ?_⟩
  by_cases hi : i < a.length
  · rw [List.getElem?_append_left hi] at hv
    rw [List.getElem?_append_left (h.1 ▸ hi)] at hv'
    exact h.2 i v v' hv hv'
  · rw [List.getElem?_append_right (by omega)] at hv
    rw [List.getElem?_append_right (by rw [← h.1]; omega), ← h.1] at hv'
    exact h'.2 _ v v' hv hv'
theorem VRs.set {m : Mp} {l l' : List Value} (h : VRs m l l') {v v' : Value} (hv : VR m v v') (i : Nat) : VRs m (l.set i v) (l'.set i v') := by
  refine ⟨by simp [h.1], fun j a b ha hb => ?_⟩
  rw [List.getElem?_set] at ha hb
  by_cases hij : i = j
  · subst hij
    rw [if_pos rfl] at ha hb
    by_cases hl : i < l.length
    · rw [if_pos hl] at ha
      rw [if_pos (h.1 ▸ hl)] at hb
      injection ha with ha; injection hb with hb
      subst ha; subst hb; exact hv
    · rw [if_neg hl] at ha; cases ha
  · rw [if_neg hij] at ha hb
    exact h.2 j a b ha hb
theorem VRs.getD {m : Mp} {l l' : List Value} (h : VRs m l l') (i : Nat) {d d' : Value} (hd : VR m d d') : VR m (l.getD i d) (l'.getD i d') := by
  rw [List.getD_eq_getElem?_getD, List.getD_eq_getElem?_getD]
  by_cases hi : i < l.length
  · have hi' : i < l'.length := h.1 ▸ hi
    rw [List.getElem?_eq_getElem hi, List.getElem?_eq_getElem hi']
    exact h.2 i _ _ (List.getElem?_eq_getElem hi) (List.getElem?_eq_getElem hi')
  · rw [List.getElem?_eq_none (by omega), List.getElem?_eq_none (by rw [← h.1]; omega)]
    exact hd
theorem VRs.take {m : Mp} {l l' : List Value} (h : VRs m l l') (n : Nat) : VRs m (l.take n) (l'.take n) := by
  refine ⟨by simp [h.1], fun i v v' a b => ?_⟩
  rw [List.getElem?_take] at a b
  split at a
  · rename_i hi; rw [if_pos hi] at b; exact h.2 i v v' a b
  · cases a
theorem VRs.drop {m : Mp} {l l' : List Value} (h : VRs m l l') (n : Nat) : VRs m (l.drop n) (l'.drop n) := by
  refine ⟨by simp [h.1], fun i v v' a b => ?_⟩
  rw [List.getElem?_drop] at a b
  exact h.2 _ v v' a b
theorem VRs.get {m : Mp} {l l' : List Value} (h : VRs m l l') {i : Nat} {v : Value} (hv : l[i]? = some v) : ∃ v', l'[i]? = some v' ∧ VR m v v' := by
  have hi : i < l.length := by
    rcases Nat.lt_or_ge i l.length with h' | h'
    · exact h'
    · rw [List.getElem?_eq_none h'] at hv; cases hv
  have hi' : i < l'.length := h.1 ▸ hi
  exact ⟨_, List.getElem?_eq_getElem hi', h.2 i _ _ hv (List.getElem?_eq_getElem hi')⟩
theorem VRs.replicate {m : Mp} {v v' : Value} (h : VR m v v') (n : Nat) : VRs m (List.replicate n v) (List.replicate n v') := by
  refine ⟨by simp, fun i a b ha hb => ?_⟩
  rw [List.getElem?_replicate] at ha hb
  split at ha
  · rename_i hi; rw [if_pos hi] at hb; injection ha with ha; injection hb with hb; subst ha; subst hb; exact h
  · cases ha

theorem VR.agg' {m : Mp} {l l' : List Value} (h : VRs m l l') : VR m (.agg l.toArray) (.agg l'.toArray) :=
  .agg _ _ (by simpa using h.1) (fun i v v' a b => h.2 i v v' (by simpa using a) (by simpa using b))
theorem VR.tuple' {m : Mp} {l l' : List Value} (h : VRs m l l') : VR m (.tuple l.toArray) (.tuple l'.toArray) :=
  .tuple _ _ (by simpa using h.1) (fun i v v' a b => h.2 i v v' (by simpa using a) (by simpa using b))
theorem VR.undef (m : Mp) : VR m undef undef := .tuple _ _ rfl (fun i v v' a _ => by simp at a)

/-- The cells of related values are related. -/
theorem VR.cells {m : Mp} {v v' : Value} (h : VR m v v') : VRs m v.cells.toList v'.cells.toList := by
  cases h with
  | agg c c' hc hs => exact ⟨by simpa [Value.cells] using hc, fun i v v' a b => hs i v v' (by simpa [Value.cells] using a) (by simpa [Value.cells] using b)⟩
  | _ => exact VRs.cons (by constructor <;> assumption) (VRs.nil m)

theorem VR.one {m : Mp} {v v' : Value} (h : VR m v v') : v.oneCell' = v'.oneCell' := by cases h <;> rfl

/-- A value without addresses. -/
def plainB : Nat → Value → Bool
  | 0, _ => false
  | n + 1, v => match v with
    | .bool _ | .int _ _ | .float _ _ | .complex _ _ _ | .string _ | .pointer none | .slice none 0 0 | .map none | .nilFunc | .nilIface => true
    | .iface _ x => plainB n x
    | .agg cs => cs.toList.all (plainB n)
    | .tuple cs => cs.toList.all (plainB n)
    | .func fn f c => fnPlain fn && f.toList.all (plainB n) && c.toList.all (plainB n)
    | _ => false

theorem VR.plain {m : Mp} : ∀ (n : Nat) (v : Value), plainB n v = true → VR m v v
  | 0, _, h => by simp [plainB] at h
  | n + 1, v, h => by
    have arr : ∀ cs : Array Value, cs.toList.all (plainB n) = true → ∀ (i : Nat) (v v' : Value), cs[i]? = some v → cs[i]? = some v' → VR m v v' := by
      intro cs hcs i v v' a b
      rw [a] at b; injection b with b; subst b
      refine VR.plain n v (List.all_eq_true.1 hcs v ?_)
      exact List.mem_of_getElem? (i := i) (by simpa using a)
    unfold plainB at h
    split at h
    · exact .bool _
    · exact .int _ _
    · exact .float _ _
    · exact .complex _ _ _
    · exact .string _
    · exact .ptrNil
    · exact .slNil
    · exact .mapNil
    · exact .nilFunc
    · exact .nilIface
    · exact .iface _ _ _ (VR.plain n _ h)
    · exact .agg _ _ rfl (arr _ h)
    · exact .tuple _ _ rfl (arr _ h)
    · simp only [Bool.and_eq_true] at h
      exact .func _ _ _ _ _ h.1.1 rfl rfl (arr _ h.1.2) (arr _ h.2)
    · cases h

end Go.AM
