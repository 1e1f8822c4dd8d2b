/- The abstract machine, part 2: reading and writing cells, new blocks; each primitive beside the model's. -/
import Derived.Test.YtafnialikielkaaAm1
namespace Go.AM
open Go

def setL : List Value → Nat → List Value → List Value
  | cs, _, [] => cs
  | cs, o, v :: vs => setL (cs.set o v) (o + 1) vs

@[simp] theorem setL_length : ∀ (vs cs : List Value) (o : Nat), (setL cs o vs).length = cs.length
  | [], _, _ => rfl
  | v :: vs, cs, o => by simp [setL, setL_length vs]

theorem setL_get : ∀ (vs cs : List Value) (o i : Nat), (setL cs o vs)[i]? = if o ≤ i ∧ i < o + vs.length ∧ i < cs.length then vs[i - o]? else cs[i]?
  | [], cs, o, i => by simp [setL]; omega
  | v :: vs, cs, o, i => by
    rw [setL, setL_get vs]
    simp only [List.length_set, List.length_cons]
    by_cases h1 : i = o
    · subst h1
      rw [if_neg (by omega)]
      by_cases hl : i < cs.length
      · rw [if_pos ⟨by omega, by omega, hl⟩]; simp [hl]
      · rw [if_neg (by omega)]; simp [hl]
    · by_cases h2 : o + 1 ≤ i ∧ i < o + 1 + vs.length ∧ i < cs.length
      · rw [if_pos h2, if_pos (by omega)]
        have : i - o = (i - (o + 1)) + 1 := by omega
        rw [this, List.getElem?_cons_succ]
      · rw [if_neg h2, if_neg (by omega), List.getElem?_set_ne (by omega)]

theorem setL_eq (cs vs : List Value) (o : Nat) (h : o + vs.length ≤ cs.length) : setL cs o vs = cs.take o ++ vs ++ cs.drop (o + vs.length) := by
  apply List.ext_getElem?
  intro i
  rw [setL_get]
  by_cases h1 : i < o
  · rw [if_neg (by omega), List.append_assoc, List.getElem?_append_left (by simp; omega), List.getElem?_take, if_pos h1]
  · by_cases h2 : i < o + vs.length
    · rw [if_pos (by omega), List.append_assoc, List.getElem?_append_right (by simp; omega), List.getElem?_append_left (by simp; omega)]
      congr 1; simp; omega
    · rw [if_neg (by omega), List.getElem?_append_right (by simp; omega), List.getElem?_drop]
      congr 1; simp; omega

theorem VRs.setL {m : Mp} : ∀ {vs vs' cs cs' : List Value} (o : Nat), VRs m cs cs' → VRs m vs vs' → VRs m (setL cs o vs) (setL cs' o vs')
  | [], vs', cs, cs', o, h, hv => by rw [VRs.nil_inv hv]; exact h
  | v :: vs, vs', cs, cs', o, h, hv => by
    obtain ⟨v', l', rfl, h1, h2⟩ := VRs.cons_inv hv
    exact VRs.setL (o + 1) (h.set h1 o) h2

/-- What a row of writes does to the heap. -/
theorem setCells_heap (b : Nat) : ∀ (vs : List Value) (o : Nat) (w : World), (w.setCells b o vs).heap.size = w.heap.size ∧ (∀ k, k ≠ b → (w.setCells b o vs).heap[k]? = w.heap[k]?) ∧
    (w.setCells b o vs).os = w.os ∧ (w.setCells b o vs).tape = w.tape ∧ (w.setCells b o vs).output = w.output ∧
    (∀ c el fr, w.heap[b]? = some (.cells c el fr) → ∃ c', (w.setCells b o vs).heap[b]? = some (.cells c' el fr) ∧ c'.toList = setL c.toList o vs)
  | [], o, w => ⟨rfl, fun _ _ => rfl, rfl, rfl, rfl, fun c el fr h => ⟨c, h, rfl⟩⟩
  | v :: vs, o, w => by
    obtain ⟨h1, h2, h3, h4, h5, h6⟩ := setCells_heap b vs (o + 1) (w.setCell ⟨b, o, none⟩ v)
    refine ⟨h1.trans (by simp), fun k hk => (h2 k hk).trans ?_, h3, h4, h5, fun c el fr h => ?_⟩
    · simp only [World.setCell, Array.getElem?_modify]
      rw [if_neg (fun e => hk e.symm)]
    · obtain ⟨c', a, e⟩ := h6 (c.setIfInBounds o v) el fr (by simp [World.setCell, Array.getElem?_modify, h])
      exact ⟨c', a, by rw [e]; simp [setL]⟩

/-- n cells of block k, from off on. -/
def rdN (h : Heap) (k off n : Nat) : Option (List Value) :=
  match h.get k with
  | some (.cells cs _ _) => bif Nat.ble (off + n) cs.length then some ((cs.drop off).take n) else none
  | _ => none

def rd1 (h : Heap) (k off : Nat) : Option Value :=
  match h.get k with
  | some (.cells cs _ _) => cs[off]?
  | _ => none

def wrN (h : Heap) (k off : Nat) (vs : List Value) : Option Heap :=
  match h.get k with
  | some (.cells cs el false) => bif Nat.ble (off + vs.length) cs.length && vs.all Value.oneCell' then some (h.set k (.cells (setL cs off vs) el false)) else none
  | _ => none

theorem ble_iff {a b : Nat} : Nat.ble a b = true ↔ a ≤ b := ⟨Nat.le_of_ble_eq_true, Nat.ble_eq_true_of_le⟩

section
variable {P : Program} {m : Mp} {h : Heap} {w : World}

theorem cell_at {w : World} {b o : Nat} {c : Array Value} {el : TypeId} {fr : Nat × Nat} (h : w.heap[b]? = some (.cells c el fr)) : w.cell? ⟨b, o, none⟩ = c[o]? := by simp [World.cell?, h]

theorem add_none (b o j : Nat) : (⟨b, o, none⟩ : Addr).add j = ⟨b, o + j, none⟩ := by unfold Addr.add; split <;> simp_all

theorem rd1_sim (R : Rel P m h w) {k off : Nat} {loc : Loc} {v : Value} (hk : m k = some loc) (hr : rd1 h k off = some v) :
    ∃ v', w.cell? ⟨loc.blk, loc.dl + off, none⟩ = some v' ∧ VR m v v' := by
  unfold rd1 at hr
  split at hr
  · rename_i cs el ro hg
    obtain ⟨c, fr, h1, h2, h3, h4, h5, h6, h7⟩ := R.ent k loc cs el ro hk hg
    obtain ⟨v', a, b⟩ := h5 off v hr
    exact ⟨v', by rw [cell_at h1]; exact a, b⟩
  · cases hr

theorem rdN_sim (R : Rel P m h w) {k off n : Nat} {loc : Loc} {l : List Value} (hk : m k = some loc) (hr : rdN h k off n = some l) :
    ∃ l', VRs m l l' ∧ l.length = n ∧ (∀ (j : Nat) v, l'[j]? = some v → w.cell? ((⟨loc.blk, loc.dl + off, none⟩ : Addr).add j) = some v) ∧ (∀ (i : Nat) (v : Value), l[i]? = some v → v.oneCell' = true) := by
  unfold rdN at hr
  split at hr
  · rename_i cs el ro hg
    obtain ⟨c, fr, h1, h2, h3, h4, h5, h6, h7⟩ := R.ent k loc cs el ro hk hg
    cases hb : Nat.ble (off + n) cs.length with
    | false => rw [hb] at hr; cases hr
    | true =>
      rw [hb] at hr
      injection hr with hr
      have hle := ble_iff.1 hb
      subst hr
      refine ⟨(c.toList.drop (loc.dl + off)).take n, ⟨?_, ?_⟩, ?_, ?_, ?_⟩
      · simp [h2]; omega
      · intro i v v' hv hv'
        rw [List.getElem?_take, List.getElem?_drop] at hv hv'
        split at hv
        · rename_i hi
          rw [if_pos hi] at hv'
          obtain ⟨u, a, b⟩ := h5 _ v hv
          have e : loc.dl + off + i = loc.dl + (off + i) := by omega
          rw [e, Array.getElem?_toList, a] at hv'
          injection hv' with hv'; subst hv'; exact b
        · cases hv
      · simp; omega
      · intro j v hv
        rw [List.getElem?_take, List.getElem?_drop] at hv
        split at hv
        · rw [add_none, cell_at h1]; simpa using hv
        · cases hv
      · intro i v hv
        rw [List.getElem?_take, List.getElem?_drop] at hv
        split at hv
        · exact h7 _ v hv
        · cases hv
  · cases hr

theorem VRs.one {l l' : List Value} (hv : VRs m l l') (h : l.all Value.oneCell' = true) : ∀ v ∈ l', v.oneCell' = true := by
  intro v hm
  obtain ⟨i, hi, rfl⟩ := List.getElem_of_mem hm
  have hi' : i < l.length := hv.1 ▸ hi
  have h1 := hv.2 i l[i] l'[i] (List.getElem?_eq_getElem hi') (List.getElem?_eq_getElem hi)
  rw [← h1.one]
  exact List.all_eq_true.1 h _ (List.getElem_mem hi')

theorem wrN_sim (R : Rel P m h w) {k off : Nat} {loc : Loc} {vs vs' : List Value} {h' : Heap} (hk : m k = some loc) (hr : wrN h k off vs = some h') (hv : VRs m vs vs') :
    (storeCells ⟨loc.blk, loc.dl + off, none⟩ vs').run P w = .ok () (w.setCells loc.blk (loc.dl + off) vs') ∧
    Rel P m h' (w.setCells loc.blk (loc.dl + off) vs') ∧ Fr m h w m h' (w.setCells loc.blk (loc.dl + off) vs') := by
  unfold wrN at hr
  split at hr
  · rename_i cs el hg
    cases hb : Nat.ble (off + vs.length) cs.length && vs.all Value.oneCell' with
    | false => rw [hb] at hr; cases hr
    | true =>
      rw [hb] at hr
      injection hr with hr
      simp only [Bool.and_eq_true] at hb
      have hle := ble_iff.1 hb.1
      have hone := hv.one hb.2
      obtain ⟨c, fr, h1, h2, h3, h4, h5, h6, h7⟩ := R.ent k loc cs el false hk hg
      obtain ⟨g1, g2, g3, g4, g5, g6⟩ := setCells_heap loc.blk vs' (loc.dl + off) w
      obtain ⟨c', ga, gb⟩ := g6 c el fr h1
      have hl' : vs'.length = vs.length := hv.1.symm
      have hst := run_storeCells_cells (P := P) loc.blk (loc.dl + off) vs' 0 w
        (fun j hj => by rw [cell_at h1]; simp only [Nat.add_zero]; rw [Array.getElem?_eq_getElem (by omega)]; rfl)
        (fun j hj => by
          have := fr_ok (h6 rfl) (i := loc.dl + off + 0 + j) (by omega)
          simp only [World.frozen?, h1, Bool.and_eq_false_iff]
          by_cases hx : fr.1 ≤ loc.dl + off + 0 + j
          · exact .inr (by simpa using fun hy => this ⟨hx, hy⟩)
          · exact .inl (by simpa using hx)) hone
      refine ⟨by simpa using hst, ?_⟩
      subst hr
      refine R.write hk hg g1 g2 ⟨c', fr, ga, ?_, by rw [setL_length]; exact h3, h4, ?_, ?_, ?_⟩ g3 g4 g5
      · rw [← h2, ← Array.length_toList, gb, setL_length, Array.length_toList]
      · intro i v hi
        rw [setL_get] at hi
        rw [← Array.getElem?_toList, gb, setL_get]
        split at hi
        · rename_i hc
          rw [if_pos (by simp only [Array.length_toList]; omega)]
          obtain ⟨v', a, b⟩ := hv.get hi
          exact ⟨v', by rw [← a]; congr 1; omega, b⟩
        · rename_i hc
          have hi2 : i < cs.length := by
            rcases Nat.lt_or_ge i cs.length with h' | h'
            · exact h'
            · rw [List.getElem?_eq_none h'] at hi; cases hi
          rw [if_neg (by simp only [Array.length_toList]; omega)]
          obtain ⟨v', a, b⟩ := h5 i v hi
          exact ⟨v', by rw [Array.getElem?_toList]; exact a, b⟩
      · intro _
        rw [← Array.length_toList, gb, setL_length, Array.length_toList]
        exact h6 rfl
      · intro i v hi
        rw [setL_get] at hi
        split at hi
        · exact List.all_eq_true.1 hb.2 v (List.mem_of_getElem? hi)
        · exact h7 i v hi
  · cases hr

/-- A new row of the given cells. -/
theorem newRow_sim (R : Rel P m h w) {cs : List Value} {cs' : Array Value} (hv : VRs m cs cs'.toList) (h1 : cs.all Value.oneCell' = true) (el : TypeId) :
    (newRow el cs').run P w = .ok ⟨w.heap.size, 0, none⟩ (w.alloc (.cells cs' el)) ∧
    Rel P (m.upd h.next ⟨w.heap.size, 0, cs'.size, eszOf P el⟩) (h.push (.cells cs el false)) (w.alloc (.cells cs' el)) ∧
    Fr m h w (m.upd h.next ⟨w.heap.size, 0, cs'.size, eszOf P el⟩) (h.push (.cells cs el false)) (w.alloc (.cells cs' el)) := by
  refine ⟨rfl, R.new (w' := w.alloc (.cells cs' el)) (c := cs') (fr := (0, 0)) rfl _ rfl rfl rfl rfl (by rw [hv.1]; simp) (fun i v hi => ?_) (.inl rfl) (fun i v hi => List.all_eq_true.1 h1 v (List.mem_of_getElem? hi)) rfl rfl rfl⟩
  obtain ⟨v', a, b⟩ := hv.get hi
  exact ⟨v', by simpa using a, b⟩

theorem VR.ptr0 {m : Mp} {k : Nat} {loc : Loc} (hk : m k = some loc) (hd : loc.dl = 0) (b : Nat) (hb : loc.blk = b) : VR m (.pointer (some ⟨k, 0, none⟩)) (.pointer (some ⟨b, 0, none⟩)) := by
  have := VR.ptr (m := m) k 0 loc hk
  rw [hd, hb] at this
  exact this
end
end Go.AM
