/- The abstract machine, part 5: slicing, conversions, new memory, each beside the model's. -/
import Derived.Test.YtafnialikielkaaAm4
import Derived.Laws.BytesArg
import Derived.Lib.ConvBytes
import Derived.Lib.AppendStr
namespace Go.AM
open Go

/-- Is a count such that no bound is near? -/
def small (n : Nat) : Bool := Nat.ble n 70368744177664

def aNew (h : Heap) (el : TypeId) (cs : List Value) : Option Heap := bif cs.all Value.oneCell' then some (h.push (.cells cs el false)) else none

def aAlloc (P : Program) (h : Heap) (el : TypeId) : Option (Value × Heap) :=
  match P.info? el with
  | some i => match i.zero with
    | some z => bif plainB 4 z then match aNew h el z.cells.toList with
      | some h' => some (.pointer (some ⟨h.next, 0, none⟩), h')
      | none => none
      else none
    | none => none
  | none => none

def aBox (h : Heap) (el : TypeId) (v : Value) : Option (Value × Heap) :=
  match aNew h el v.cells.toList with
  | some h' => some (.pointer (some ⟨h.next, 0, none⟩), h')
  | none => none

def aFill (place : Nat → Option (Nat × Nat)) : List Value → List (Nat × Value) → Option (List Value)
  | cells, [] => some cells
  | cells, (i, v) :: rest =>
    match place i with
    | none => none
    | some (off, size) => bif Nat.beq v.cells.size size && Nat.ble (off + v.cells.size) cells.length then aFill place (setL cells off v.cells.toList) rest else none

def aPlaces (P : Program) : List Field → Option (List (Nat × Nat))
  | [] => some []
  | f :: fs => match P.info? f.type with
    | some i => match aPlaces P fs with
      | some l => some ((f.offset, i.size) :: l)
      | none => none
    | none => none

def aBuild (P : Program) (t : TypeId) (parts : List (Nat × Value)) : Option Value :=
  match P.info? t with
  | some i => match i.zero with
    | some z => bif plainB 4 z then
      match P.underlying t with
      | some (.struct fs) => match aPlaces P fs.toList with
        | some pl => match aFill (fun i => pl[i]?) z.cells.toList parts with
          | some cs => some (.agg cs.toArray)
          | none => none
        | none => none
      | some (.array _ e) => match P.info? e with
        | some ie => match aFill (fun i => some (i * ie.size, ie.size)) z.cells.toList parts with
          | some cs => some (.agg cs.toArray)
          | none => none
        | none => none
      | _ => none
      else none
    | none => none
  | none => none

/-- n elements of noughts. -/
def zeroRow (zero : List Value) (n : Nat) : List Value := (List.range (n * zero.length)).map fun i => zero.getD (i % zero.length) undef

def aBuildSlice (P : Program) (h : Heap) (t : TypeId) (len : Nat) (parts : List (Nat × Value)) : Option (Value × Heap) :=
  match P.underlying t with
  | some (.slice e) => match P.info? e with
    | some i => match i.zero with
      | some z => bif Nat.ble (len * i.size) 1048576 && Nat.ble len 1048576 && Nat.beq z.cells.size i.size && plainB 4 z then
        match aFill (fun k => some (k * i.size, i.size)) (zeroRow z.cells.toList len) parts with
        | some cs => match aNew h e cs with
          | some h' => some (.slice (some ⟨h.next, 0, none⟩) len len, h')
          | none => none
        | none => none
        else none
      | none => none
    | none => none
  | _ => none

def aMake (P : Program) (h : Heap) (t : TypeId) (len cap : Value) : Option (Value × Heap) :=
  match P.underlying t, len, cap with
  | some (.slice e), .int _ l, .int _ c => match P.info? e with
    | some i => match i.zero with
      | some z => if 0 ≤ l ∧ l ≤ c then bif small (c.toNat * i.bytes) && small c.toNat && Nat.beq z.cells.size i.size && plainB 4 z then
        match aNew h e (zeroRow z.cells.toList c.toNat) with
        | some h' => some (.slice (some ⟨h.next, 0, none⟩) l.toNat c.toNat, h')
        | none => none
        else none
        else none
      | none => none
    | none => none
  | _, _, _ => none

def intsOf : List Value → Option (List Int)
  | [] => some []
  | v :: l => match v with
    | .int .u8 n => match intsOf l with
      | some r => some (n :: r)
      | none => none
    | _ => none

def aConv (P : Program) (h : Heap) (src dst : TypeId) (x : Value) : Option (Value × Heap) :=
  match P.underlying src, P.underlying dst, x with
  | some _, some (.int k), .int _ n => some (.int k (k.wrap n), h)
  | some _, some .string, .string s => some (.string s, h)
  | some (.slice e), some .string, .slice none _ _ => match P.underlying e with
    | some (.int .u8) => some (.string .empty, h)
    | _ => none
  | some (.slice e), some .string, .slice (some ⟨k, off, none⟩) len cap => match P.underlying e with
    | some (.int .u8) => bif Nat.beq len 0 then some (.string .empty, h) else
      match rdN h k off len with
      | some l => match intsOf l with
        | some ns => some (.string (strOfNums ns), h)
        | none => none
      | none => none
    | _ => none
  | some (.slice _), some (.slice e), .slice (some ⟨k, off, none⟩) len cap => match P.underlying e, h.get k with
    | some (.int .u8), some (.cells _ _ false) => bif Nat.beq src dst && !(Nat.beq cap 2535301200456458802993406410752) then some (x, h) else none
    | _, _ => none
  | some _, some (.slice e), .string s => match P.underlying e, P.info? e with
    | some (.int .u8), some i => bif small s.size && Nat.beq i.size 1 then
      match aNew h e (s.data.toList.map fun b => .int .u8 b.toNat) with
      | some h' => some (.slice (some ⟨h.next, 0, none⟩) s.size opnCap, h')
      | none => none
      else none
    | _, _ => none
  | _, _, _ => none

/-- A run of the model beside one of the abstract machine's. -/
def Sim (P : Program) (m : Mp) (h : Heap) (w : World) (s : Sem Value) (v : Value) (h' : Heap) : Prop :=
  ∃ v' m' w', s.run P w = .ok v' w' ∧ Rel P m' h' w' ∧ VR m' v v' ∧ Fr m h w m' h' w'

section
variable {P : Program} {m : Mp} {h : Heap} {w : World}

theorem Sim.same {s : Sem Value} {v v' : Value} (R : Rel P m h w) (hr : s.run P w = .ok v' w) (hv : VR m v v') : Sim P m h w s v h := ⟨v', m, w, hr, R, hv, Fr.refl m h w⟩

theorem isOpn_sub {a b : Nat} (h : isOpn a = false) (hb : b ≤ a) : isOpn b = false := by
  unfold isOpn at *
  cases e : Nat.ble 1237940039285380274899124224 b with
  | false => rfl
  | true =>
    have := ble_iff.1 e
    have h2 : Nat.ble 1237940039285380274899124224 a = true := ble_iff.2 (Nat.le_trans this hb)
    rw [h2] at h; cases h

theorem beq_false {a b : Nat} (h : Nat.beq a b = false) : a ≠ b := fun e => by subst e; simp at h

theorem aSlice_sim (R : Rel P m h w) {t : TypeId} {x x' v : Value} {lo hi mx lo' hi' mx' : Option Value} (hx : VR m x x') (hlo : VRo m lo lo') (hhi : VRo m hi hi') (hmx : VRo m mx mx')
    (hno : mx.isSome = true → hi.isSome = true) (ha : aSlice P h t x lo hi mx = some v) : ∃ v', (Instr.sliceAt t x' lo' hi' mx').run P w = .ok v' w ∧ VR m v v' := by
  unfold aSlice at ha
  split at ha
  · rename_i s hu
    cases hx
    split at ha
    · cases ha
    · cases mx' with
      | some _ => exact hmx.elim
      | none =>
      split at ha
      · rename_i hh h2
        split at ha
        · rename_i ll h3
          injection ha with ha; subst ha
          have := (bounds_sim (P := P) (isSl := false) (mx := none) (mx' := none) hlo hhi trivial (by rfl) h2 h3 (by simp) w).1
          exact ⟨_, by simp [Instr.sliceAt, run_underlying hu, Instr.slice, this], .string _⟩
        · cases ha
      · cases ha
  · rename_i e base len cap hu
    split at ha
    · rename_i i hinf
      cases ho : isOpn cap with
      | true =>
        rw [ho] at ha
        simp only [cond_true] at ha
        split at ha
        · cases ha
        · cases mx' with
          | some _ => exact hmx.elim
          | none =>
          split at ha
          · rename_i hh h2
            split at ha
            · rename_i ll h3
              split at ha
              · rename_i k off
                have hhl : hh ≤ len := by
                  cases hi with
                  | none => simp [aBoundO] at h2; omega
                  | some u => cases hi' with
                    | none => exact hhi.elim
                    | some u' => exact (aBound_sim (P := P) hhi h2 .index w).2
                rcases sl_inv hx with ⟨loc, cap', hk, rfl, hor⟩ | ⟨h0, _, he, a, c, rfl⟩
                · rcases hor with ⟨hf, _⟩ | ⟨_, hl', hz, hmx'⟩
                  · rw [hf] at ho; cases ho
                  · have h2' : aBoundO hi cap' len = some hh := by
                      cases hi with
                      | none => exact h2
                      | some u =>
                        simp only [aBoundO, aBound] at h2 ⊢
                        split at h2
                        · rename_i i1
                          split at h2
                          · rename_i hb; rw [if_pos (by omega)]; exact h2
                          · cases h2
                        · cases h2
                    have hb := bounds_sim (P := P) (isSl := true) (mx := none) (mx' := none) hlo hhi trivial (by rfl) h2' h3 (by simp) w
                    cases hl0 : Nat.beq ll 0 with
                    | true =>
                      rw [hl0] at ha
                      simp only [cond_true] at ha
                      injection ha with ha; subst ha
                      have hl00 : ll = 0 := Nat.eq_of_beq_eq_true hl0
                      subst hl00
                      refine ⟨.slice (some ⟨loc.blk, loc.dl + off, none⟩) hh cap', ?_, .slOpn _ _ _ _ _ _ hk ho (by omega) hz hmx'⟩
                      simp [Instr.sliceAt, run_underlying hu, Instr.slice, hb.1, run_sizeOf' hinf, Addr.add]
                    | false =>
                      rw [hl0] at ha
                      simp only [cond_false] at ha
                      by_cases hlt : ll < len
                      · rw [blt_true hlt] at ha
                        simp only [cond_true] at ha
                        split at ha
                        · rename_i cs0 el ro0 hg
                          cases he : Nat.beq el e with
                          | false => rw [he] at ha; cases ha
                          | true =>
                            rw [he] at ha
                            have he' := Nat.eq_of_beq_eq_true he
                            subst he'
                            injection ha with ha; subst ha
                            obtain ⟨c0, fr0, g1, g2, g3, g4, _⟩ := R.ent k loc cs0 el ro0 hk hg
                            have g4' : loc.esz = i.size := by rw [g4, eszOf, hinf]; rfl
                            refine ⟨.slice (some ⟨loc.blk, loc.dl + (off + ll * i.size), none⟩) (hh - ll) (cap' - ll), ?_, .slOpn _ _ _ _ _ _ hk (by decide) (by omega) ?_ (by omega)⟩
                            · have hne : cap' ≠ ll := by omega
                              simp [Instr.sliceAt, run_underlying hu, Instr.slice, hb.1, run_sizeOf' hinf, hne, add_none, Nat.add_assoc]
                            · rw [← hz, g4', Nat.sub_mul]
                              have : ll * i.size ≤ cap' * i.size := Nat.mul_le_mul_right _ (by omega)
                              omega
                        · cases ha
                      · rw [blt_false hlt] at ha
                        simp only [cond_false] at ha
                        injection ha with ha; subst ha
                        have hle := hb.2.1
                        have e1 : hh - ll = 0 := by omega
                        by_cases hc : cap' = ll
                        · have hb1 := hb.1
                          rw [hc] at hb1
                          exact ⟨.slice (some ⟨loc.blk, loc.dl + off, none⟩) 0 (cap' - ll), by simp [Instr.sliceAt, run_underlying hu, Instr.slice, run_sizeOf' hinf, hc, hb1, e1], .slEmp _ _⟩
                        · exact ⟨.slice (some ⟨loc.blk, loc.dl + off + ll * i.size, none⟩) 0 (cap' - ll), by simp [Instr.sliceAt, run_underlying hu, Instr.slice, hb.1, run_sizeOf' hinf, hc, e1, add_none], .slEmp _ _⟩
                · subst h0
                  have hh0 : hh = 0 := by omega
                  subst hh0
                  have h2' : aBoundO hi c 0 = some 0 := by
                    cases hi with
                    | none => rfl
                    | some u =>
                      simp only [aBoundO, aBound] at h2 ⊢
                      split at h2
                      · rename_i i1
                        split at h2
                        · rename_i hb; rw [if_pos (by omega)]; exact h2
                        · cases h2
                      · cases h2
                  have hb := bounds_sim (P := P) (isSl := true) (mx := none) (mx' := none) hlo hhi trivial (by rfl) h2' h3 (by simp) w
                  have hl00 : ll = 0 := by have := hb.2.1; omega
                  subst hl00
                  simp only [Nat.beq_refl, cond_true] at ha
                  injection ha with ha; subst ha
                  rw [he]
                  exact ⟨.slice (some a) 0 c, by simp [Instr.sliceAt, run_underlying hu, Instr.slice, hb.1, run_sizeOf' hinf, Addr.add], .slEmp _ _⟩
              · cases ha
            · cases ha
          · cases ha
      | false =>
        rw [ho] at ha
        simp only [cond_false] at ha
        split at ha
        · rename_i mm h1
          split at ha
          · rename_i hh h2
            split at ha
            · rename_i ll h3
              have hb := bounds_sim (P := P) (isSl := true) hlo hhi hmx h1 h2 h3 hno w
              split at ha
              · rename_i k off
                injection ha with ha; subst ha
                rcases sl_inv hx with ⟨loc, cap', hk, rfl, hor⟩ | ⟨_, ho', _⟩
                · rcases hor with ⟨_, rfl⟩ | ⟨ho', _⟩
                  · cases hml : Nat.beq mm ll with
                    | true =>
                      have hml' := Nat.eq_of_beq_eq_true hml
                      simp only [cond_true]
                      refine ⟨.slice (some ⟨loc.blk, loc.dl + off, none⟩) (hh - ll) (mm - ll), ?_, .sl _ _ _ _ _ hk (isOpn_sub ho (by omega))⟩
                      simp [Instr.sliceAt, run_underlying hu, Instr.slice, hb.1, run_sizeOf' hinf, hml']
                    | false =>
                      have hml' := beq_false hml
                      simp only [cond_false]
                      refine ⟨.slice (some ⟨loc.blk, loc.dl + (off + ll * i.size), none⟩) (hh - ll) (mm - ll), ?_, .sl _ _ _ _ _ hk (isOpn_sub ho (by omega))⟩
                      simp [Instr.sliceAt, run_underlying hu, Instr.slice, hb.1, run_sizeOf' hinf, hml', add_none, Nat.add_assoc]
                  · rw [ho'] at ho; cases ho
                · rw [ho'] at ho; cases ho
              · cases ha
              · injection ha with ha; subst ha
                cases hx
                have hm0 := hb.2.2
                have hh0 : hh ≤ 0 := by
                  cases hi with
                  | none => simp [aBoundO] at h2; omega
                  | some u => cases hi' with
                    | none => exact hhi.elim
                    | some u' => have := (aBound_sim (P := P) hhi h2 .index w).2; omega
                have hm00 : mm = 0 := by omega
                have hh00 : hh = 0 := by omega
                have hl00 : ll = 0 := by have := hb.2.1; omega
                subst hm00; subst hh00; subst hl00
                refine ⟨.slice none 0 0, ?_, .slNil⟩
                simp [Instr.sliceAt, run_underlying hu, Instr.slice, hb.1, run_sizeOf' hinf]
            · cases ha
          · cases ha
        · cases ha
    · cases ha
  · rename_i n e k off hu
    obtain ⟨loc, hk, rfl⟩ := ptr_inv hx
    split at ha
    · rename_i i hinf
      cases hno' : isOpn n with
      | true => rw [hno'] at ha; cases ha
      | false =>
      rw [hno'] at ha
      simp only [cond_false] at ha
      split at ha
      · rename_i mm h1
        split at ha
        · rename_i hh h2
          split at ha
          · rename_i ll h3
            injection ha with ha; subst ha
            have hb := bounds_sim (P := P) (isSl := false) hlo hhi hmx h1 h2 h3 hno w
            cases hml : Nat.beq mm ll with
            | true =>
              have hml' := Nat.eq_of_beq_eq_true hml
              simp only [cond_true]
              refine ⟨.slice (some ⟨loc.blk, loc.dl + off, none⟩) (hh - ll) (mm - ll), ?_, .sl _ _ _ _ _ hk (isOpn_sub hno' (by omega))⟩
              simp [Instr.sliceAt, run_underlying hu, Instr.sureAddr, hb.1, run_sizeOf' hinf, hml']
            | false =>
              have hml' := beq_false hml
              simp only [cond_false]
              refine ⟨.slice (some ⟨loc.blk, loc.dl + (off + ll * i.size), none⟩) (hh - ll) (mm - ll), ?_, .sl _ _ _ _ _ hk (isOpn_sub hno' (by omega))⟩
              simp [Instr.sliceAt, run_underlying hu, Instr.sureAddr, hb.1, run_sizeOf' hinf, hml', add_none, Nat.add_assoc]
          · cases ha
        · cases ha
      · cases ha
    · cases ha
  · cases ha

theorem aNew_sim (R : Rel P m h w) {cs : List Value} {cs' : Array Value} {el : TypeId} {h' : Heap} (hv : VRs m cs cs'.toList) (ha : aNew h el cs = some h') :
    h' = h.push (.cells cs el false) ∧ (newRow el cs').run P w = .ok ⟨w.heap.size, 0, none⟩ (w.alloc (.cells cs' el)) ∧
    Rel P (m.upd h.next ⟨w.heap.size, 0, cs'.size, eszOf P el⟩) h' (w.alloc (.cells cs' el)) ∧
    Fr m h w (m.upd h.next ⟨w.heap.size, 0, cs'.size, eszOf P el⟩) h' (w.alloc (.cells cs' el)) := by
  unfold aNew at ha
  cases ho : cs.all Value.oneCell' with
  | false => rw [ho] at ha; cases ha
  | true => rw [ho] at ha; injection ha with ha; subst ha; exact ⟨rfl, newRow_sim R hv ho el⟩

theorem run_zeroValue' {t : TypeId} {i : TypeInfo} {z : Value} (hi : P.info? t = some i) (hz : i.zero = some z) (w : World) : (zeroValue t).run P w = .ok z w := by
  simp [zeroValue, run_typeInfo w hi, hz]

theorem aAlloc_sim (R : Rel P m h w) {el : TypeId} {v : Value} {h' : Heap} (ha : aAlloc P h el = some (v, h')) : Sim P m h w (Instr.alloc el true (.tuple #[])) v h' := by
  unfold aAlloc at ha
  split at ha
  · rename_i i hi
    split at ha
    · rename_i z hz
      cases hp : plainB 4 z with
      | false => rw [hp] at ha; cases ha
      | true =>
        rw [hp] at ha
        simp only [cond_true] at ha
        split at ha
        · rename_i h2 h3
          injection ha with ha; injection ha with e1 e2; subst e1; subst e2
          obtain ⟨_, hr, R', F⟩ := aNew_sim R (VR.plain (m := m) 4 z hp).cells h3
          exact ⟨_, _, _, by simp [Instr.alloc, run_zeroValue' hi hz, newVar, hr], R', VR.ptr0 (Mp.upd_same _ _ _) rfl _ rfl, F⟩
        · cases ha
    · cases ha
  · cases ha

theorem aBox_sim (R : Rel P m h w) {el : TypeId} {x x' v : Value} {h' : Heap} (hx : VR m x x') (ha : aBox h el x = some (v, h')) : Sim P m h w (Instr.box el x') v h' := by
  unfold aBox at ha
  split at ha
  · rename_i h2 h3
    injection ha with ha; injection ha with e1 e2; subst e1; subst e2
    obtain ⟨_, hr, R', F⟩ := aNew_sim R hx.cells h3
    exact ⟨_, _, _, by simp [Instr.box, newVar, hr], R', VR.ptr0 (Mp.upd_same _ _ _) rfl _ rfl, F⟩
  · cases ha

/-- Parts of a struct, an array, a slice. -/
def VRp (m : Mp) (l l' : List (Nat × Value)) : Prop := l.length = l'.length ∧ ∀ (i : Nat) p p', l[i]? = some p → l'[i]? = some p' → p.1 = p'.1 ∧ VR m p.2 p'.2

theorem VRp.cons_inv {p : Nat × Value} {l k : List (Nat × Value)} (h : VRp m (p :: l) k) : ∃ p' l', k = p' :: l' ∧ p.1 = p'.1 ∧ VR m p.2 p'.2 ∧ VRp m l l' := by
  cases k with
  | nil => simp [VRp] at h
  | cons v' l' => exact ⟨v', l', rfl, (h.2 0 p v' rfl rfl).1, (h.2 0 p v' rfl rfl).2, ⟨by simpa [VRp] using h.1, fun i a b ha hb => h.2 (i + 1) a b (by simpa using ha) (by simpa using hb)⟩⟩
theorem VRp.nil_inv {k : List (Nat × Value)} (h : VRp m [] k) : k = [] := by
  cases k with
  | nil => rfl
  | cons v' l' => simp [VRp] at h

theorem foldl_set (off : Nat) : ∀ (vs : List Value) (s : Nat) (cs : Array Value), ((vs.zipIdx s).foldl (fun cs (x : Value × Nat) => cs.setIfInBounds (off + x.2) x.1) cs).toList = setL cs.toList (off + s) vs
  | [], _, _ => rfl
  | v :: vs, s, cs => by
    rw [List.zipIdx_cons, List.foldl_cons, foldl_set off vs (s + 1)]
    simp [setL, Nat.add_assoc]

theorem aFill_sim (place : Nat → Option (Nat × Nat)) : ∀ (parts parts' : List (Nat × Value)) (cs : List Value) (cs' : Array Value) (r : List Value), VRp m parts parts' → VRs m cs cs'.toList → aFill place cs parts = some r →
    ∃ r', Instr.fill place cs' parts' = some r' ∧ VRs m r r'.toList
  | [], parts', cs, cs', r, hp, hv, ha => by
    rw [VRp.nil_inv hp]
    simp only [aFill] at ha
    injection ha with ha; subst ha
    exact ⟨cs', rfl, hv⟩
  | (i, v) :: parts, parts', cs, cs', r, hp, hv, ha => by
    obtain ⟨⟨i', v'⟩, l', rfl, h1, h2, h3⟩ := VRp.cons_inv hp
    simp only at h1; subst h1
    simp only [aFill] at ha
    split at ha
    · cases ha
    · rename_i off size hpl
      cases hc : Nat.beq v.cells.size size && Nat.ble (off + v.cells.size) cs.length with
      | false => rw [hc] at ha; cases ha
      | true =>
        rw [hc] at ha
        simp only [cond_true] at ha
        simp only [Bool.and_eq_true] at hc
        have hs := Nat.eq_of_beq_eq_true hc.1
        have hb := ble_iff.1 hc.2
        have hcell : v.cells.size = v'.cells.size := by simpa using h2.cells.1
        have hlen : cs.length = cs'.size := by simpa using hv.1
        have hset := VRs.setL off hv h2.cells
        obtain ⟨r', a, b⟩ := aFill_sim place parts l' _ (v'.cells.zipIdx.foldl (fun cs (x : Value × Nat) => cs.setIfInBounds (off + x.2) x.1) cs') r h3 (by
          have := foldl_set off v'.cells.toList 0 cs'
          rw [← Array.foldl_toList, Array.toList_zipIdx, this]
          simpa using hset) ha
        refine ⟨r', ?_, b⟩
        simp only [Instr.fill, hpl]
        rw [if_neg (by simp; omega)]
        exact a
end
end Go.AM
