/- The abstract machine, part 5: slicing, conversions, new memory, each beside the model's. -/
import Derived.Test.YtanknjpcgceccaaLims1
import Derived.Laws.BytesArg
import Derived.Lib.ConvBytes
import Derived.Lib.AppendStr

namespace Go.AM
open Go
def small (n : Nat) : Bool := Nat.ble n 70368744177664
def aNew (h : Heap) (el : TypeId) (cs : List Value) : Option Heap := bif cs.all Value.oneCell' then some (h.push (.cells cs el false)) else none
def aAlloc (P : Program) (h : Heap) (el : TypeId) : Option (Value × Heap) :=
  match P.info? el with
  | some i => match i.zero with
    | some z => bif plainB 4 z then match aNew h el z.cells.toList with
      | some h' => some (.pointer (some ⟨h.next, 0, none⟩), h')
      | none => none
      else none
    | none => none
  | none => none
def aBox (h : Heap) (el : TypeId) (v : Value) : Option (Value × Heap) :=
  match aNew h el v.cells.toList with
  | some h' => some (.pointer (some ⟨h.next, 0, none⟩), h')
  | none => none
def aFill (place : Nat → Option (Nat × Nat)) : List Value → List (Nat × Value) → Option (List Value)
  | cells, [] => some cells
  | cells, (i, v) :: rest =>
    match place i with
    | none => none
    | some (off, size) => bif Nat.beq v.cells.size size && Nat.ble (off + v.cells.size) cells.length then aFill place (setL cells off v.cells.toList) rest else none
def aPlaces (P : Program) : List Field → Option (List (Nat × Nat))
  | [] => some []
  | f :: fs => match P.info? f.type with
    | some i => match aPlaces P fs with
      | some l => some ((f.offset, i.size) :: l)
      | none => none
    | none => none
def aBuild (P : Program) (t : TypeId) (parts : List (Nat × Value)) : Option Value :=
  match P.info? t with
  | some i => match i.zero with
    | some z => bif plainB 4 z then
      match P.underlying t with
      | some (.struct fs) => match aPlaces P fs.toList with
        | some pl => match aFill (fun i => pl[i]?) z.cells.toList parts with
          | some cs => some (.agg cs.toArray)
          | none => none
        | none => none
      | some (.array _ e) => match P.info? e with
        | some ie => match aFill (fun i => some (i * ie.size, ie.size)) z.cells.toList parts with
          | some cs => some (.agg cs.toArray)
          | none => none
        | none => none
      | _ => none
      else none
    | none => none
  | none => none
def zeroRow (zero : List Value) (n : Nat) : List Value := (List.range (n * zero.length)).map fun i => zero.getD (i % zero.length) undef
def aBuildSlice (P : Program) (h : Heap) (t : TypeId) (len : Nat) (parts : List (Nat × Value)) : Option (Value × Heap) :=
  match P.underlying t with
  | some (.slice e) => match P.info? e with
    | some i => match i.zero with
      | some z => bif Nat.ble (len * i.size) 1048576 && Nat.ble len 1048576 && Nat.beq z.cells.size i.size && plainB 4 z then
        match aFill (fun k => some (k * i.size, i.size)) (zeroRow z.cells.toList len) parts with
        | some cs => match aNew h e cs with
          | some h' => some (.slice (some ⟨h.next, 0, none⟩) len len, h')
          | none => none
        | none => none
        else none
      | none => none
    | none => none
  | _ => none
def aMake (P : Program) (h : Heap) (t : TypeId) (len cap : Value) : Option (Value × Heap) :=
  match P.underlying t, len, cap with
  | some (.slice e), .int _ l, .int _ c => match P.info? e with
    | some i => match i.zero with
      | some z => if 0 ≤ l ∧ l ≤ c then bif small (c.toNat * i.bytes) && small c.toNat && Nat.beq z.cells.size i.size && plainB 4 z then
        match aNew h e (zeroRow z.cells.toList c.toNat) with
        | some h' => some (.slice (some ⟨h.next, 0, none⟩) l.toNat c.toNat, h')
        | none => none
        else none
        else none
      | none => none
    | none => none
  | _, _, _ => none
def intsOf : List Value → Option (List Int)
  | [] => some []
  | v :: l => match v with
    | .int .u8 n => match intsOf l with
      | some r => some (n :: r)
      | none => none
    | _ => none
def aConv (P : Program) (h : Heap) (src dst : TypeId) (x : Value) : Option (Value × Heap) :=
  match P.underlying src, P.underlying dst, x with
  | some _, some (.int k), .int _ n => some (.int k (k.wrap n), h)
  | some _, some .string, .string s => some (.string s, h)
  | some (.slice e), some .string, .slice none _ _ => match P.underlying e with
    | some (.int .u8) => some (.string .empty, h)
    | _ => none
  | some (.slice e), some .string, .slice (some ⟨k, off, none⟩) len cap => match P.underlying e with
    | some (.int .u8) => bif Nat.beq len 0 then some (.string .empty, h) else
      match rdN h k off len with
      | some l => match intsOf l with
        | some ns => some (.string (strOfNums ns), h)
        | none => none
      | none => none
    | _ => none
  | some (.slice _), some (.slice e), .slice (some ⟨k, off, none⟩) len cap => match P.underlying e, h.get k with
    | some (.int .u8), some (.cells _ _ false) => bif Nat.beq src dst && !(Nat.beq cap 2535301200456458802993406410752) then some (x, h) else none
    | _, _ => none
  | some _, some (.slice e), .string s => match P.underlying e, P.info? e with
    | some (.int .u8), some i => bif small s.size && Nat.beq i.size 1 then
      match aNew h e (s.data.toList.map fun b => .int .u8 b.toNat) with
      | some h' => some (.slice (some ⟨h.next, 0, none⟩) s.size opnCap, h')
      | none => none
      else none
    | _, _ => none
  | _, _, _ => none
def Sim (P : Program) (m : Mp) (h : Heap) (w : World) (s : Sem Value) (v : Value) (h' : Heap) : Prop :=
  ∃ v' m' w', s.run P w = .ok v' w' ∧ Rel P m' h' w' ∧ VR m' v v' ∧ Fr m h w m' h' w'
section
variable {P : Program} {m : Mp} {h : Heap} {w : World}
theorem Sim.same {s : Sem Value} {v v' : Value} (R : Rel P m h w) (hr : s.run P w = .ok v' w) (hv : VR m v v') : Sim P m h w s v h := ⟨v', m, w, hr, R, hv, Fr.refl m h w⟩
theorem isOpn_sub {a b : Nat} (h : isOpn a = false) (hb : b ≤ a) : isOpn b = false := by
  unfold isOpn at *
  cases e : Nat.ble 1237940039285380274899124224 b with
  | false => rfl
  | true =>
    have := ble_iff.1 e
    have h2 : Nat.ble 1237940039285380274899124224 a = true := ble_iff.2 (Nat.le_trans this hb)
    rw [h2] at h; cases h
theorem beq_false {a b : Nat} (h : Nat.beq a b = false) : a ≠ b := fun e => by subst e; simp at h
theorem aSlice_sim (R : Rel P m h w) {t : TypeId} {x x' v : Value} {lo hi mx lo' hi' mx' : Option Value} (hx : VR m x x') (hlo : VRo m lo lo') (hhi : VRo m hi hi') (hmx : VRo m mx mx')
    (hno : mx.isSome = true → hi.isSome = true) (ha : aSlice P h t x lo hi mx = some v) : ∃ v', (Instr.sliceAt t x' lo' hi' mx').run P w = .ok v' w ∧ VR m v v' := by
  unfold aSlice at ha
  split at ha
  · rename_i s hu
    cases hx
    split at ha
    · cases ha
    · cases mx' with
      | some _ => exact hmx.elim
      | none =>
      split at ha
      · rename_i hh h2
        split at ha
        · rename_i ll h3
          injection ha with ha; subst ha
          have := (bounds_sim (P := P) (isSl := false) (mx := none) (mx' := none) hlo hhi trivial (by rfl) h2 h3 (by simp) w).1
          exact ⟨_, by simp [Instr.sliceAt, run_underlying hu, Instr.slice, this], .string _⟩
        · cases ha
      · cases ha
  · rename_i e base len cap hu
    split at ha
    · rename_i i hinf
      cases ho : isOpn cap with
      | true =>
        rw [ho] at ha
        simp only [cond_true] at ha
        split at ha
        · cases ha
        · cases mx' with
          | some _ => exact hmx.elim
          | none =>
          split at ha
          · rename_i hh h2
            split at ha
            · rename_i ll h3
              split at ha
              · rename_i k off
                have hhl : hh ≤ len := by
                  cases hi with
                  | none => simp [aBoundO] at h2; omega
                  | some u => cases hi' with
                    | none => exact hhi.elim
                    | some u' => exact (aBound_sim (P := P) hhi h2 .index w).2
                rcases sl_inv hx with ⟨loc, cap', hk, rfl, hor⟩ | ⟨h0, _, he, a, c, rfl⟩
                · rcases hor with ⟨hf, _⟩ | ⟨_, hl', hz, hmx'⟩
                  · rw [hf] at ho; cases ho
                  · have h2' : aBoundO hi cap' len = some hh := by
                      cases hi with
                      | none => exact h2
                      | some u =>
                        simp only [aBoundO, aBound] at h2 ⊢
                        split at h2
                        · rename_i i1
                          split at h2
                          · rename_i hb; rw [if_pos (by omega)]; exact h2
                          · cases h2
                        · cases h2
                    have hb := bounds_sim (P := P) (isSl := true) (mx := none) (mx' := none) hlo hhi trivial (by rfl) h2' h3 (by simp) w
                    cases hl0 : Nat.beq ll 0 with
                    | true =>
                      rw [hl0] at ha
                      simp only [cond_true] at ha
                      injection ha with ha; subst ha
                      have hl00 : ll = 0 := Nat.eq_of_beq_eq_true hl0
                      subst hl00
                      refine ⟨.slice (some ⟨loc.blk, loc.dl + off, none⟩) hh cap', ?_, .slOpn _ _ _ _ _ _ hk ho (by omega) hz hmx'⟩
                      simp [Instr.sliceAt, run_underlying hu, Instr.slice, hb.1, run_sizeOf' hinf, Addr.add]
                    | false =>
                      rw [hl0] at ha
                      simp only [cond_false] at ha
                      by_cases hlt : ll < len
                      · rw [blt_true hlt] at ha
                        simp only [cond_true] at ha
                        split at ha
                        · rename_i cs0 el ro0 hg
                          cases he : Nat.beq el e with
                          | false => rw [he] at ha; cases ha
                          | true =>
                            rw [he] at ha
                            have he' := Nat.eq_of_beq_eq_true he
                            subst he'
                            injection ha with ha; subst ha
                            obtain ⟨c0, fr0, g1, g2, g3, g4, _⟩ := R.ent k loc cs0 el ro0 hk hg
                            have g4' : loc.esz = i.size := by rw [g4, eszOf, hinf]; rfl
                            refine ⟨.slice (some ⟨loc.blk, loc.dl + (off + ll * i.size), none⟩) (hh - ll) (cap' - ll), ?_, .slOpn _ _ _ _ _ _ hk (by decide) (by omega) ?_ (by omega)⟩
                            · have hne : cap' ≠ ll := by omega
                              simp [Instr.sliceAt, run_underlying hu, Instr.slice, hb.1, run_sizeOf' hinf, hne, add_none, Nat.add_assoc]
                            · rw [← hz, g4', Nat.sub_mul]
                              have : ll * i.size ≤ cap' * i.size := Nat.mul_le_mul_right _ (by omega)
                              omega
                        · cases ha
                      · rw [blt_false hlt] at ha
                        simp only [cond_false] at ha
                        injection ha with ha; subst ha
                        have hle := hb.2.1
                        have e1 : hh - ll = 0 := by omega
                        by_cases hc : cap' = ll
                        · have hb1 := hb.1
                          rw [hc] at hb1
                          exact ⟨.slice (some ⟨loc.blk, loc.dl + off, none⟩) 0 (cap' - ll), by simp [Instr.sliceAt, run_underlying hu, Instr.slice, run_sizeOf' hinf, hc, hb1, e1], .slEmp _ _⟩
                        · exact ⟨.slice (some ⟨loc.blk, loc.dl + off + ll * i.size, none⟩) 0 (cap' - ll), by simp [Instr.sliceAt, run_underlying hu, Instr.slice, hb.1, run_sizeOf' hinf, hc, e1, add_none], .slEmp _ _⟩
                · subst h0
                  have hh0 : hh = 0 := by omega
                  subst hh0
                  have h2' : aBoundO hi c 0 = some 0 := by
                    cases hi with
                    | none => rfl
                    | some u =>
                      simp only [aBoundO, aBound] at h2 ⊢
                      split at h2
                      · rename_i i1
                        split at h2
                        · rename_i hb; rw [if_pos (by omega)]; exact h2
                        · cases h2
                      · cases h2
                  have hb := bounds_sim (P := P) (isSl := true) (mx := none) (mx' := none) hlo hhi trivial (by rfl) h2' h3 (by simp) w
                  have hl00 : ll = 0 := by have := hb.2.1; omega
                  subst hl00
                  simp only [Nat.beq_refl, cond_true] at ha
                  injection ha with ha; subst ha
                  rw [he]
                  exact ⟨.slice (some a) 0 c, by simp [Instr.sliceAt, run_underlying hu, Instr.slice, hb.1, run_sizeOf' hinf, Addr.add], .slEmp _ _⟩
              · cases ha
            · cases ha
          · cases ha
      | false =>
        rw [ho] at ha
        simp only [cond_false] at ha
        split at ha
        · rename_i mm h1
          split at ha
          · rename_i hh h2
            split at ha
            · rename_i ll h3
              have hb := bounds_sim (P := P) (isSl := true) hlo hhi hmx h1 h2 h3 hno w
              split at ha
              · rename_i k off
                injection ha with ha; subst ha
                rcases sl_inv hx with ⟨loc, cap', hk, rfl, hor⟩ | ⟨_, ho', _⟩
                · rcases hor with ⟨_, rfl⟩ | ⟨ho', _⟩
                  · cases hml : Nat.beq mm ll with
                    | true =>
                      have hml' := Nat.eq_of_beq_eq_true hml
                      simp only [cond_true]
                      refine ⟨.slice (some ⟨loc.blk, loc.dl + off, none⟩) (hh - ll) (mm - ll), ?_, .sl _ _ _ _ _ hk (isOpn_sub ho (by omega))⟩
                      simp [Instr.sliceAt, run_underlying hu, Instr.slice, hb.1, run_sizeOf' hinf, hml']
                    | false =>
                      have hml' := beq_false hml
                      simp only [cond_false]
                      refine ⟨.slice (some ⟨loc.blk, loc.dl + (off + ll * i.size), none⟩) (hh - ll) (mm - ll), ?_, .sl _ _ _ _ _ hk (isOpn_sub ho (by omega))⟩
                      simp [Instr.sliceAt, run_underlying hu, Instr.slice, hb.1, run_sizeOf' hinf, hml', add_none, Nat.add_assoc]
                  · rw [ho'] at ho; cases ho
                · rw [ho'] at ho; cases ho
              · cases ha
              · injection ha with ha; subst ha
                cases hx
                have hm0 := hb.2.2
                have hh0 : hh ≤ 0 := by
                  cases hi with
                  | none => simp [aBoundO] at h2; omega
                  | some u => cases hi' with
                    | none => exact hhi.elim
                    | some u' => have := (aBound_sim (P := P) hhi h2 .index w).2; omega
                have hm00 : mm = 0 := by omega
                have hh00 : hh = 0 := by omega
                have hl00 : ll = 0 := by have := hb.2.1; omega
                subst hm00; subst hh00; subst hl00
                refine ⟨.slice none 0 0, ?_, .slNil⟩
                simp [Instr.sliceAt, run_underlying hu, Instr.slice, hb.1, run_sizeOf' hinf]
            · cases ha
          · cases ha
        · cases ha
    · cases ha
  · rename_i n e k off hu
    obtain ⟨loc, hk, rfl⟩ := ptr_inv hx
    split at ha
    · rename_i i hinf
      cases hno' : isOpn n with
      | true => rw [hno'] at ha; cases ha
      | false =>
      rw [hno'] at ha
      simp only [cond_false] at ha
      split at ha
      · rename_i mm h1
        split at ha
        · rename_i hh h2
          split at ha
          · rename_i ll h3
            injection ha with ha; subst ha
            have hb := bounds_sim (P := P) (isSl := false) hlo hhi hmx h1 h2 h3 hno w
            cases hml : Nat.beq mm ll with
            | true =>
              have hml' := Nat.eq_of_beq_eq_true hml
              simp only [cond_true]
              refine ⟨.slice (some ⟨loc.blk, loc.dl + off, none⟩) (hh - ll) (mm - ll), ?_, .sl _ _ _ _ _ hk (isOpn_sub hno' (by omega))⟩
              simp [Instr.sliceAt, run_underlying hu, Instr.sureAddr, hb.1, run_sizeOf' hinf, hml']
            | false =>
              have hml' := beq_false hml
              simp only [cond_false]
              refine ⟨.slice (some ⟨loc.blk, loc.dl + (off + ll * i.size), none⟩) (hh - ll) (mm - ll), ?_, .sl _ _ _ _ _ hk (isOpn_sub hno' (by omega))⟩
              simp [Instr.sliceAt, run_underlying hu, Instr.sureAddr, hb.1, run_sizeOf' hinf, hml', add_none, Nat.add_assoc]
          · cases ha
        · cases ha
      · cases ha
    · cases ha
  · cases ha
theorem aNew_sim (R : Rel P m h w) {cs : List Value} {cs' : Array Value} {el : TypeId} {h' : Heap} (hv : VRs m cs cs'.toList) (ha : aNew h el cs = some h') :
    h' = h.push (.cells cs el false) ∧ (newRow el cs').run P w = .ok ⟨w.heap.size, 0, none⟩ (w.alloc (.cells cs' el)) ∧
    Rel P (m.upd h.next ⟨w.heap.size, 0, cs'.size, eszOf P el⟩) h' (w.alloc (.cells cs' el)) ∧
    Fr m h w (m.upd h.next ⟨w.heap.size, 0, cs'.size, eszOf P el⟩) h' (w.alloc (.cells cs' el)) := by
  unfold aNew at ha
  cases ho : cs.all Value.oneCell' with
  | false => rw [ho] at ha; cases ha
  | true => rw [ho] at ha; injection ha with ha; subst ha; exact ⟨rfl, newRow_sim R hv ho el⟩
theorem run_zeroValue' {t : TypeId} {i : TypeInfo} {z : Value} (hi : P.info? t = some i) (hz : i.zero = some z) (w : World) : (zeroValue t).run P w = .ok z w := by
  simp [zeroValue, run_typeInfo w hi, hz]
theorem aAlloc_sim (R : Rel P m h w) {el : TypeId} {v : Value} {h' : Heap} (ha : aAlloc P h el = some (v, h')) : Sim P m h w (Instr.alloc el true (.tuple #[])) v h' := by
  unfold aAlloc at ha
  split at ha
  · rename_i i hi
    split at ha
    · rename_i z hz
      cases hp : plainB 4 z with
      | false => rw [hp] at ha; cases ha
      | true =>
        rw [hp] at ha
        simp only [cond_true] at ha
        split at ha
        · rename_i h2 h3
          injection ha with ha; injection ha with e1 e2; subst e1; subst e2
          obtain ⟨_, hr, R', F⟩ := aNew_sim R (VR.plain (m := m) 4 z hp).cells h3
          exact ⟨_, _, _, by simp [Instr.alloc, run_zeroValue' hi hz, newVar, hr], R', VR.ptr0 (Mp.upd_same _ _ _) rfl _ rfl, F⟩
        · cases ha
    · cases ha
  · cases ha
theorem aBox_sim (R : Rel P m h w) {el : TypeId} {x x' v : Value} {h' : Heap} (hx : VR m x x') (ha : aBox h el x = some (v, h')) : Sim P m h w (Instr.box el x') v h' := by
  unfold aBox at ha
  split at ha
  · rename_i h2 h3
    injection ha with ha; injection ha with e1 e2; subst e1; subst e2
    obtain ⟨_, hr, R', F⟩ := aNew_sim R hx.cells h3
    exact ⟨_, _, _, by simp [Instr.box, newVar, hr], R', VR.ptr0 (Mp.upd_same _ _ _) rfl _ rfl, F⟩
  · cases ha
def VRp (m : Mp) (l l' : List (Nat × Value)) : Prop := l.length = l'.length ∧ ∀ (i : Nat) p p', l[i]? = some p → l'[i]? = some p' → p.1 = p'.1 ∧ VR m p.2 p'.2
theorem VRp.cons_inv {p : Nat × Value} {l k : List (Nat × Value)} (h : VRp m (p :: l) k) : ∃ p' l', k = p' :: l' ∧ p.1 = p'.1 ∧ VR m p.2 p'.2 ∧ VRp m l l' := by
  cases k with
  | nil => simp [VRp] at h
  | cons v' l' => exact ⟨v', l', rfl, (h.2 0 p v' rfl rfl).1, (h.2 0 p v' rfl rfl).2, ⟨by simpa [VRp] using h.1, fun i a b ha hb => h.2 (i + 1) a b (by simpa using ha) (by simpa using hb)⟩⟩
theorem VRp.nil_inv {k : List (Nat × Value)} (h : VRp m [] k) : k = [] := by
  cases k with
  | nil => rfl
  | cons v' l' => simp [VRp] at h
theorem foldl_set (off : Nat) : ∀ (vs : List Value) (s : Nat) (cs : Array Value), ((vs.zipIdx s).foldl (fun cs (x : Value × Nat) => cs.setIfInBounds (off + x.2) x.1) cs).toList = setL cs.toList (off + s) vs
  | [], _, _ => rfl
  | v :: vs, s, cs => by
    rw [List.zipIdx_cons, List.foldl_cons, foldl_set off vs (s + 1)]
    simp [setL, Nat.add_assoc]
theorem aFill_sim (place : Nat → Option (Nat × Nat)) : ∀ (parts parts' : List (Nat × Value)) (cs : List Value) (cs' : Array Value) (r : List Value), VRp m parts parts' → VRs m cs cs'.toList → aFill place cs parts = some r →
    ∃ r', Instr.fill place cs' parts' = some r' ∧ VRs m r r'.toList
  | [], parts', cs, cs', r, hp, hv, ha => by
    rw [VRp.nil_inv hp]
    simp only [aFill] at ha
    injection ha with ha; subst ha
    exact ⟨cs', rfl, hv⟩
  | (i, v) :: parts, parts', cs, cs', r, hp, hv, ha => by
    obtain ⟨⟨i', v'⟩, l', rfl, h1, h2, h3⟩ := VRp.cons_inv hp
    simp only at h1; subst h1
    simp only [aFill] at ha
    split at ha
    · cases ha
    · rename_i off size hpl
      cases hc : Nat.beq v.cells.size size && Nat.ble (off + v.cells.size) cs.length with
      | false => rw [hc] at ha; cases ha
      | true =>
        rw [hc] at ha
        simp only [cond_true] at ha
        simp only [Bool.and_eq_true] at hc
        have hs := Nat.eq_of_beq_eq_true hc.1
        have hb := ble_iff.1 hc.2
        have hcell : v.cells.size = v'.cells.size := by simpa using h2.cells.1
        have hlen : cs.length = cs'.size := by simpa using hv.1
        have hset := VRs.setL off hv h2.cells
        obtain ⟨r', a, b⟩ := aFill_sim place parts l' _ (v'.cells.zipIdx.foldl (fun cs (x : Value × Nat) => cs.setIfInBounds (off + x.2) x.1) cs') r h3 (by
          have := foldl_set off v'.cells.toList 0 cs'
          rw [← Array.foldl_toList, Array.toList_zipIdx, this]
          simpa using hset) ha
        refine ⟨r', ?_, b⟩
        simp only [Instr.fill, hpl]
        rw [if_neg (by simp; omega)]
        exact a
end
end Go.AM

namespace Go.AM
open Go
section
variable {P : Program} {m : Mp} {h : Heap} {w : World}
theorem rb {α β : Type} {s : Sem α} {f : α → Sem β} {a : α} {w w1 : World} {r : Result β} (h : s.run P w = .ok a w1) (h2 : (f a).run P w1 = r) : (s >>= f).run P w = r := by
  rw [Sem.run_bind, h]; exact h2
theorem rp {α : Type} {c : Prop} [Decidable c] {x y : Sem α} {w : World} {r : Result α} (h : c) (h2 : x.run P w = r) : (if c then x else y).run P w = r := by
  rw [if_pos h]; exact h2
theorem rn {α : Type} {c : Prop} [Decidable c] {x y : Sem α} {w : World} {r : Result α} (h : ¬ c) (h2 : y.run P w = r) : (if c then x else y).run P w = r := by
  rw [if_neg h]; exact h2
theorem rpu {α β : Type} {f : α → Sem β} {a : α} {w : World} {r : Result β} (h2 : (f a).run P w = r) : (pure a >>= f).run P w = r := by
  rw [Sem.run_bind]; exact h2
theorem aPlaces_run : ∀ (fs : List Field) (l : List (Nat × Nat)), aPlaces P fs = some l → ∀ w : World,
    (fs.mapM fun f => do pure (f.offset, ← sizeOf f.type) : Sem (List (Nat × Nat))).run P w = .ok l w
  | [], l, ha, w => by simp only [aPlaces] at ha; injection ha with ha; subst ha; rfl
  | f :: fs, l, ha, w => by
    simp only [aPlaces] at ha
    split at ha
    · rename_i i hi
      split at ha
      · rename_i l' hl
        injection ha with ha; subst ha
        have ih := aPlaces_run fs l' hl
        simp only [List.mapM_cons, Sem.run_bind, run_sizeOf' hi, Result.andThen_ok, Sem.run_pure, ih]
      · cases ha
    · cases ha
theorem aBuild_sim {t : TypeId} {parts : List (Nat × Value)} {parts' : Array (Nat × Value)} {v : Value} (hp : VRp m parts parts'.toList) (ha : aBuild P t parts = some v) (w : World) :
    ∃ v', (Instr.build t parts').run P w = .ok v' w ∧ VR m v v' := by
  unfold aBuild at ha
  split at ha
  · rename_i i hi
    split at ha
    · rename_i z hz
      cases hpl : plainB 4 z with
      | false => rw [hpl] at ha; cases ha
      | true =>
        rw [hpl] at ha
        simp only [cond_true] at ha
        have hzc := (VR.plain (m := m) 4 z hpl).cells
        split at ha
        · rename_i fs hu
          split at ha
          · rename_i pl hpls
            split at ha
            · rename_i cs hf
              injection ha with ha; subst ha
              obtain ⟨r', a, b⟩ := aFill_sim _ parts parts'.toList z.cells.toList z.cells cs hp hzc hf
              have hm := aPlaces_run fs.toList pl hpls w
              refine ⟨.agg r', ?_, ?_⟩
              · obtain ⟨l, rfl⟩ : ∃ l : List Field, fs = l.toArray := ⟨fs.toList, by simp⟩
                simp at hm
                simp [Instr.build, run_zeroValue' hi hz, run_underlying hu, hm, a]
              · have := VR.agg' b; simpa using this
            · cases ha
          · cases ha
        · rename_i n e hu
          split at ha
          · rename_i ie hie
            split at ha
            · rename_i cs hf
              injection ha with ha; subst ha
              obtain ⟨r', a, b⟩ := aFill_sim _ parts parts'.toList z.cells.toList z.cells cs hp hzc hf
              refine ⟨.agg r', by simp [Instr.build, run_zeroValue' hi hz, run_underlying hu, run_sizeOf' hie, a], ?_⟩
              have := VR.agg' b; simpa using this
            · cases ha
          · cases ha
        · cases ha
    · cases ha
  · cases ha
theorem zeroRow_eq (z : Array Value) (n : Nat) : ((Array.range (n * z.size)).map (z[· % z.size]!)).toList = zeroRow z.toList n := by
  simp only [Array.toList_map, Array.toList_range, zeroRow, Array.length_toList]
  apply List.map_congr_left
  intro i hi
  rw [List.mem_range] at hi
  have hp : 0 < z.size := by
    rcases Nat.eq_zero_or_pos z.size with h0 | h0
    · rw [h0] at hi; omega
    · exact h0
  have hlt : i % z.size < z.size := Nat.mod_lt _ hp
  rw [getElem!_pos z _ hlt, List.getD_eq_getElem?_getD, Array.getElem?_toList, Array.getElem?_eq_getElem hlt]
  rfl
theorem zeroCells_eq (z : Array Value) (n : Nat) : (Builtin.zeroCells z n).toList = zeroRow z.toList n := zeroRow_eq z n
theorem zeroRow_length (z : List Value) (n : Nat) : (zeroRow z n).length = n * z.length := by simp [zeroRow]
theorem VRs.zeroRow {z : List Value} (hz : VRs m z z) (n : Nat) : VRs m (zeroRow z n) (zeroRow z n) := by
  refine ⟨rfl, fun i v v' a b => ?_⟩
  rw [a] at b; injection b with b; subst b
  have := List.mem_of_getElem? a
  simp only [AM.zeroRow, List.mem_map] at this
  obtain ⟨j, _, rfl⟩ := this
  exact hz.getD _ (VR.undef m)
theorem small_le {n : Nat} (h : small n = true) : n ≤ 70368744177664 := ble_iff.1 h
theorem aBuildSlice_sim (R : Rel P m h w) {t : TypeId} {len : Nat} {parts : List (Nat × Value)} {parts' : Array (Nat × Value)} {v : Value} {h' : Heap} (hp : VRp m parts parts'.toList)
    (ha : aBuildSlice P h t len parts = some (v, h')) : Sim P m h w (Instr.buildSlice t len parts') v h' := by
  unfold aBuildSlice at ha
  split at ha
  · rename_i e hu
    split at ha
    · rename_i i hi
      split at ha
      · rename_i z hz
        cases hc : Nat.ble (len * i.size) 1048576 && Nat.ble len 1048576 && Nat.beq z.cells.size i.size && plainB 4 z with
        | false => rw [hc] at ha; cases ha
        | true =>
          rw [hc] at ha
          simp only [cond_true] at ha
          simp only [Bool.and_eq_true] at hc
          obtain ⟨⟨⟨hc1, hc0⟩, hc2⟩, hc3⟩ := hc
          have hb := ble_iff.1 hc1
          have hs := Nat.eq_of_beq_eq_true hc2
          have hzc := (VR.plain (m := m) 4 z hc3).cells
          split at ha
          · rename_i cs hf
            split at ha
            · rename_i h2 h3
              injection ha with ha; injection ha with e1 e2; subst e1; subst e2
              have hrow := VRs.zeroRow hzc len
              obtain ⟨r', a, b⟩ := aFill_sim (fun k => some (k * i.size, i.size)) parts parts'.toList _ ((Array.range (len * z.cells.size)).map (z.cells[· % z.cells.size]!)) cs hp (by rw [zeroRow_eq]; exact hrow) hf
              obtain ⟨_, hr, R', F⟩ := aNew_sim R b h3
              refine ⟨.slice (some ⟨w.heap.size, 0, none⟩) len len, _, _, ?_, R', ?_, F⟩
              · have h24 : ¬ (16777216 < len * i.size) := by omega
                by_cases h0 : len * i.size = 0
                · have e0 : (Array.range (len * z.cells.size)).map (z.cells[· % z.cells.size]!) = #[] := by rw [hs, h0]; simp
                  have ha0 : Instr.fill (fun k => some (k * i.size, i.size)) #[] parts'.toList = some r' := by
                    rw [← a, e0]
                  have er : Array.range 0 = (#[] : Array Nat) := rfl
                  simp [Instr.buildSlice, run_underlying hu, run_sizeOf' hi, h0, er, ha0, hr]
                · rw [hs] at a
                  have a' : Instr.fill (fun k => some (k * i.size, i.size)) ((Array.range (len * i.size)).map (z.cells[· % z.cells.size]!)) parts'.toList = some r' := by rw [hs]; exact a
                  simp [Instr.buildSlice, run_underlying hu, run_sizeOf' hi, h24, h0, run_zeroValue' hi hz, a', hr]
              · exact VR.sl (m := m.upd h.next ⟨w.heap.size, 0, r'.size, eszOf P e⟩) h.next 0 len len _ (Mp.upd_same _ _ _) (isOpn_sub (a := 1048576) (by decide) (ble_iff.1 hc0))
            · cases ha
          · cases ha
      · cases ha
    · cases ha
  · cases ha
theorem aMake_sim (R : Rel P m h w) {t : TypeId} {l c l' c' v : Value} {h' : Heap} (hl : VR m l l') (hc : VR m c c') (ha : aMake P h t l c = some (v, h')) : Sim P m h w (Instr.makeSlice t l' c') v h' := by
  unfold aMake at ha
  split at ha
  · rename_i e k1 l k2 c hu
    cases hl; cases hc
    split at ha
    · rename_i i hi
      split at ha
      · rename_i z hz
        split at ha
        · rename_i hlc
          cases hb : small (c.toNat * i.bytes) && small c.toNat && Nat.beq z.cells.size i.size && plainB 4 z with
          | false => rw [hb] at ha; cases ha
          | true =>
            rw [hb] at ha
            simp only [cond_true] at ha
            simp only [Bool.and_eq_true] at hb
            obtain ⟨⟨⟨hb1, hb2⟩, hb3⟩, hb4⟩ := hb
            have hs1 := small_le hb1
            have hs2 := small_le hb2
            have hs := Nat.eq_of_beq_eq_true hb3
            have hzc := (VR.plain (m := m) 4 z hb4).cells
            split at ha
            · rename_i h2 h3
              injection ha with ha; injection ha with e1 e2; subst e1; subst e2
              have hrow := VRs.zeroRow hzc c.toNat
              rw [← zeroRow_eq] at hrow
              have hrow2 : VRs m (zeroRow z.cells.toList c.toNat) ((Array.range (c.toNat * z.cells.size)).map (z.cells[· % z.cells.size]!)).toList := by rw [zeroRow_eq] at hrow ⊢; exact hrow
              obtain ⟨_, hr, R', F⟩ := aNew_sim R hrow2 h3
              refine ⟨.slice (some ⟨w.heap.size, 0, none⟩) l.toNat c.toNat, _, _, ?_, R', VR.sl (m := m.upd h.next _) h.next 0 l.toNat c.toNat _ (Mp.upd_same _ _ _) (isOpn_sub (a := 70368744177664) (by decide) hs2), F⟩
              have wl : IntKind.i64.wrap l = l := by simp only [IntKind.wrap, IntKind.bits, IntKind.signed]; simp; omega
              have wc : IntKind.i64.wrap c = c := by simp only [IntKind.wrap, IntKind.bits, IntKind.signed]; simp; omega
              have t1 : ¬ (c < 0) := by omega
              have t2 : ¬ ((281474976710656 : Int) < (i.bytes : Int) * c) := by
                have : (i.bytes : Int) * c = ((c.toNat * i.bytes : Nat) : Int) := by
                  rw [Int.natCast_mul, Int.toNat_of_nonneg (by omega), Int.mul_comm]
                omega
              have t3 : ¬ (l < 0) := by omega
              have t4 : ¬ (c < l) := by omega
              by_cases h0 : c.toNat * i.size = 0
              · have er : Array.range 0 = (#[] : Array Nat) := rfl
                have e0 : (Array.range (c.toNat * z.cells.size)).map (z.cells[· % z.cells.size]!) = #[] := by rw [hs, h0, er]; simp
                rw [e0] at hr
                rw [e0]
                simp [Instr.makeSlice, run_underlying hu, asInt, asIntOf, run_typeInfo w hi, run_sizeOf' hi, wl, wc, t1, t2, t3, t4, h0, er, hr]
              · have hr' : (newRow e ((Array.range (c.toNat * i.size)).map (z.cells[· % z.cells.size]!))).run P w = .ok ⟨w.heap.size, 0, none⟩ (w.alloc (.cells ((Array.range (c.toNat * z.cells.size)).map (z.cells[· % z.cells.size]!)) e)) := by rw [← hs]; exact hr
                simp [Instr.makeSlice, run_underlying hu, asInt, asIntOf, run_typeInfo w hi, run_sizeOf' hi, run_zeroValue' hi hz, wl, wc, t1, t2, t3, t4, h0, hr']
            · cases ha
        · cases ha
      · cases ha
    · cases ha
  · cases ha
theorem intsOf_eq : ∀ (l : List Value) (ns : List Int), intsOf l = some ns → l = ns.map (Value.int .u8)
  | [], ns, h => by simp only [intsOf] at h; injection h with h; subst h; rfl
  | v :: l, ns, h => by
    simp only [intsOf] at h
    split at h
    · split at h
      · rename_i r hr
        injection h with h; subst h
        rw [intsOf_eq l r hr]; rfl
      · cases h
    · cases h
theorem VRs.ints {k : IntKind} : ∀ {ns : List Int} {l' : List Value}, VRs m (ns.map (Value.int k)) l' → l' = ns.map (Value.int k)
  | [], l', h => VRs.nil_inv h
  | n :: ns, l', h => by
    obtain ⟨v', l2, rfl, h1, h2⟩ := VRs.cons_inv h
    cases h1
    rw [VRs.ints h2]; rfl
theorem aConv_sim (R : Rel P m h w) {src dst : TypeId} {x x' v : Value} {h' : Heap} (hx : VR m x x') (ha : aConv P h src dst x = some (v, h')) : Sim P m h w (convert src dst x') v h' := by
  unfold aConv at ha
  split at ha
  · rename_i d k k' n hs hd
    injection ha with ha; injection ha with e1 e2; subst e1; subst e2
    cases hx
    exact .same R (by simp [convert, run_underlying hs, run_underlying hd, Conv.intToInt]) (.int _ _)
  · rename_i d s hs hd
    injection ha with ha; injection ha with e1 e2; subst e1; subst e2
    cases hx
    exact .same R (by simp [convert, run_underlying hs, run_underlying hd]) (.string _)
  · rename_i e l c hs hd
    split at ha
    · rename_i he
      injection ha with ha; injection ha with e1 e2; subst e1; subst e2
      cases hx
      exact .same R (run_convert_bytes_nil w src e hs he 0 0 dst hd) (.string _)
    · cases ha
  · rename_i e k off len cap hs hd
    split at ha
    · rename_i he
      cases hl : Nat.beq len 0 with
      | true =>
        rw [hl] at ha
        injection ha with ha; injection ha with e1 e2; subst e1; subst e2
        have h0 := Nat.eq_of_beq_eq_true hl
        subst h0
        have emp : ∀ (a : Addr) (c : Nat), (convert src dst (.slice (some a) 0 c)).run P w = .ok (.string .empty) w := fun a c => by
          rw [run_convert_bytes_string w src dst e _ 0 c hs he hd]
          simp [Conv.bytesToString, loadCells, loadCellsFrom]
        rcases sl_inv hx with ⟨loc, cap', hk, rfl, _⟩ | ⟨_, _, _, a, c, rfl⟩
        · exact .same R (emp _ _) (.string _)
        · exact .same R (emp _ _) (.string _)
      | false =>
        rw [hl] at ha
        simp only [cond_false] at ha
        have hne := beq_false hl
        split at ha
        · rename_i l hr
          split at ha
          · rename_i ns hns
            injection ha with ha; injection ha with e1 e2; subst e1; subst e2
            rcases sl_inv hx with ⟨loc, cap', hk, rfl, _⟩ | ⟨h0, _⟩
            · obtain ⟨l', hv, hlen, hc, _⟩ := rdN_sim R hk hr
              rw [intsOf_eq l ns hns] at hv hlen
              have hl' := VRs.ints hv
              subst hl'
              have := run_loadCells_list (P := P) w _ _ hc
              rw [hlen] at this
              refine .same R ?_ (.string _)
              rw [run_convert_bytes_string w src dst e _ len cap' hs he hd, run_bytesToString w _ len cap' ns this, foldl_push_bytes]
              simp [strOfNums, ByteArray.empty, ByteArray.emptyWithCapacity]
              rfl
            · exact absurd h0 hne
          · cases ha
        · cases ha
    · cases ha
  · rename_i e0 e k off len cap hs hd
    split at ha
    · rename_i cs el he hg
      cases hb : Nat.beq src dst && !(Nat.beq cap 2535301200456458802993406410752) with
      | false => rw [hb] at ha; cases ha
      | true =>
        rw [hb] at ha
        simp only [Bool.and_eq_true] at hb
        obtain ⟨hb, hbm⟩ := hb
        injection ha with ha; injection ha with e1 e2; subst e1; subst e2
        have hsd := Nat.eq_of_beq_eq_true hb
        subst hsd
        have hx0 := hx
        rcases sl_inv hx with ⟨loc, cap', hk, rfl, _⟩ | ⟨_, _, hE, _⟩
        · obtain ⟨c, fr, c1, c2, c3, c4, c5, c6, c7⟩ := R.ent k loc cs el false hk hg
          obtain ⟨lo, hi⟩ := fr
          have hheap : (w.freeze ⟨loc.blk, c.size, none⟩ 1).heap[loc.blk]? = some (.cells c el (if lo == hi then (c.size, c.size + 1) else (min lo c.size, max hi (c.size + 1)))) := by
            simp [World.freeze, Array.getElem?_modify, c1]
          have ht := R.touch (w' := w.freeze ⟨loc.blk, c.size, none⟩ 1) hk hg (by simp [World.freeze]) (fun b hb => by
              simp only [World.freeze, Array.getElem?_modify]
              rw [if_neg (by simp)]
              simp only [Array.getElem?_modify]
              rw [if_neg (fun e => hb e.symm)])
            ⟨c, _, hheap, c2, c3, c4, c5, fun _ => by
              have := c6 rfl
              simp only at this
              split
              · exact .inr (Nat.le_refl _)
              · rename_i hne
                have : ¬ lo = hi := by simpa using hne
                exact .inr (by simp only; omega), c7⟩ rfl rfl rfl
          refine ⟨_, m, _, ?_, ht.1, hx0, ht.2⟩
          have hmark : (markStringish ⟨loc.blk, loc.dl + off, none⟩).run P w = .ok () (w.freeze ⟨loc.blk, c.size, none⟩ 1) := by
            simp [markStringish, World.shape?, c1]
          have h0 : (convert src src (.slice (some ⟨loc.blk, loc.dl + off, none⟩) len cap')).run P w = (do markStringish ⟨loc.blk, loc.dl + off, none⟩; pure (.slice (some ⟨loc.blk, loc.dl + off, none⟩) len cap') : Sem Value).run P w := by
            have hee : e0 = e := by rw [hs] at hd; injection hd with hd; injection hd
            subst hee
            simp [convert, run_underlying hs, run_underlying he]
          rw [h0]
          exact rb hmark rfl
        · exfalso
          simp only [slE] at hE
          injection hE with _ _ hE'
          rw [hE'] at hbm; simp at hbm
    · cases ha
  · rename_i d e s hs hd
    split at ha
    · rename_i i he hi
      cases hb : small s.size && Nat.beq i.size 1 with
      | false => rw [hb] at ha; cases ha
      | true =>
        rw [hb] at ha
        simp only [cond_true] at ha
        simp only [Bool.and_eq_true] at hb
        have hsm := small_le hb.1
        have hi1 := Nat.eq_of_beq_eq_true hb.2
        split at ha
        · rename_i h2 h3
          injection ha with ha; injection ha with e1 e2; subst e1; subst e2
          cases hx
          unfold aNew at h3
          cases ho : (s.data.toList.map fun b => Value.int .u8 b.toNat).all Value.oneCell' with
          | false => rw [ho] at h3; cases h3
          | true =>
            rw [ho] at h3; injection h3 with h3; subst h3
            have hge := grownCap_ge w s.size 0 e
            have hlem := grownCap_le_maxLen w s.size 0 e (by unfold maxLen; omega)
            have hsz : s.data.toList.length = s.size := by rw [Array.length_toList]; rfl
            have hsz' : s.data.size = s.size := rfl
            obtain ⟨c, hc⟩ : ∃ c : Array Value, c = Lib.bytesCells w e s := ⟨_, rfl⟩
            have hcs : c.size = grownCap w s.size 0 e := by rw [hc, Lib.bytesCells]; simp only [Array.size_append, Array.size_map, Array.size_replicate, hsz']; omega
            have hheap : (Lib.bytesWorld w e s).heap = w.heap.push (.cells c e (c.size, c.size + 1)) := by
              apply Array.ext_getElem?
              intro j
              rw [Array.getElem?_push]
              by_cases h1 : j = w.heap.size
              · rw [if_pos h1, h1, hc]; exact Lib.bytesWorld_at_new w e s
              · rw [if_neg h1]
                by_cases h2 : j < w.heap.size
                · exact Lib.bytesWorld_at_old w e s j h2
                · rw [Array.getElem?_eq_none (by rw [Lib.bytesWorld_size]; omega), Array.getElem?_eq_none (by omega)]
            have hnew := R.new (w' := Lib.bytesWorld w e s) (c := c) (el := e) (fr := (c.size, c.size + 1)) hheap
              (cs := s.data.toList.map fun b => Value.int .u8 b.toNat) ⟨w.heap.size, 0, c.size, eszOf P e⟩ rfl rfl rfl rfl (by rw [List.length_map, hsz, hcs]; exact hge)
              (fun i v hv => by
                have hil : i < s.data.toList.length := by
                  rcases Nat.lt_or_ge i s.data.toList.length with h' | h'
                  · exact h'
                  · rw [List.getElem?_eq_none (by simpa using h')] at hv; cases hv
                refine ⟨v, ?_, ?_⟩
                · rw [hc, Lib.bytesCells, Array.getElem?_append_left (by simpa using hil)]
                  rw [← hv]; simp
                · rw [List.getElem?_map] at hv
                  cases hq : s.data.toList[i]? with
                  | none => rw [hq] at hv; cases hv
                  | some q => rw [hq] at hv; injection hv with hv; subst hv; exact .int _ _)
              (.inr (Nat.le_refl _)) (fun i v hv => List.all_eq_true.1 ho v (List.mem_of_getElem? hv)) rfl rfl rfl
            exact ⟨_, _, _, Lib.run_convert_string_bytes w src dst e s hs hd he, hnew.1,
              VR.slOpn (m := m.upd h.next ⟨w.heap.size, 0, c.size, eszOf P e⟩) h.next 0 s.size _ _ _ (Mp.upd_same _ _ _) (by decide) hge (by simp only [eszOf, hi, Option.map_some, Option.getD_some, hi1, hcs]; omega) hlem, hnew.2⟩
        · cases ha
    · cases ha
  · cases ha
end
end Go.AM

namespace Go.AM
open Go
def aSrc (P : Program) (h : Heap) (i : TypeInfo) (z : Value) (xT : TypeId) (x : Value) : Option (Nat × List Value) :=
  match P.underlying xT with
  | some (.int _) => match x with
    | .int _ l => if 0 ≤ IntKind.i64.wrap l then bif small (IntKind.i64.wrap l).toNat && small ((IntKind.i64.wrap l).toNat * i.bytes) then some ((IntKind.i64.wrap l).toNat, zeroRow z.cells.toList (IntKind.i64.wrap l).toNat) else none else none
    | _ => none
  | some _ => match x with
    | .slice none _ _ => some (0, [])
    | .slice (some ⟨k, off, none⟩) n _ => bif Nat.beq n 0 then some (0, []) else match rdN h k off (n * i.size) with
      | some l => some (n, l)
      | none => none
    | .string s => bif Nat.beq i.size 1 then some (s.size, s.data.toList.map fun b => .int .u8 b.toNat) else none
    | _ => none
  | none => none
def aAppend (P : Program) (h : Heap) (sT xT : TypeId) (s x : Value) : Option (Value × Heap) :=
  match P.underlying sT, s with
  | some (.slice e), .slice base sLen sCap => match P.info? e with
    | some i => match i.zero with
      | some z => bif Nat.beq z.cells.size i.size && plainB 4 z && !(Nat.beq i.size 0) then
        match aSrc P h i z xT x with
        | some (n, news) =>
          bif Nat.beq n 0 then (bif Nat.ble sLen sCap then some (s, h) else none) else
          bif small (sLen + n) && small ((sLen + n) * i.bytes) then
            match base with
            | none => match aNew h e news with
              | some h' => some (.slice (some ⟨h.next, 0, none⟩) n opnCap, h')
              | none => none
            | some ⟨k, off, none⟩ =>
              bif isOpn sCap then
                bif Nat.beq sCap 2535301200456458802993406410752 then none else
                match h.get k with
                | some (.cells cs el false) => bif Nat.beq el e && Nat.ble (off + sLen * i.size) cs.length && news.all Value.oneCell' then
                    some (.slice (some ⟨h.next, 0, none⟩) (sLen + n) opnCap, (h.set k .dead).push (.cells ((cs.drop off).take (sLen * i.size) ++ news) e false)) else none
                | _ => none
              else bif Nat.ble (sLen + n) sCap then
                match wrN h k (off + sLen * i.size) news with
                | some h' => some (.slice base (sLen + n) sCap, h')
                | none => none
              else match rdN h k off (sLen * i.size) with
                | some old => match aNew h e (old ++ news) with
                  | some h' => some (.slice (some ⟨h.next, 0, none⟩) (sLen + n) opnCap, h')
                  | none => none
                | none => none
            | _ => none
          else none
        | none => none
        else none
      | none => none
    | none => none
  | _, _ => none
def aCopy (P : Program) (h : Heap) (dT : TypeId) (d x : Value) : Option (Value × Heap) :=
  match P.underlying dT, d with
  | some (.slice e), .slice base dLen _ => match P.info? e with
    | some i =>
      match (match x with
        | .slice none _ _ => some (0, [])
        | .slice (some ⟨k, off, none⟩) n _ => bif Nat.beq (Nat.min n dLen) 0 then some (0, []) else match rdN h k off (Nat.min n dLen * i.size) with
          | some l => some (Nat.min n dLen, l)
          | none => none
        | .string s => bif Nat.beq i.size 1 then some (Nat.min s.size dLen, (s.data.toList.take (Nat.min s.size dLen)).map fun b => Value.int .u8 b.toNat) else none
        | _ => none) with
      | some (n, news) =>
        bif Nat.beq n 0 then some (.int .i64 0, h) else
        match base with
        | some ⟨k, off, none⟩ => match wrN h k off news with
          | some h' => some (.int .i64 n, h')
          | none => none
        | _ => none
      | none => none
    | none => none
  | _, _ => none
def aLen (P : Program) (t : TypeId) (x : Value) : Option Value :=
  match P.underlying t, x with
  | some .string, .string s => some (.int .i64 s.size)
  | some (.array n _), _ => some (.int .i64 n)
  | some (.slice _), .slice _ n _ => some (.int .i64 n)
  | some (.map _ _), .map none => some (.int .i64 0)
  | _, _ => none
def aCap (P : Program) (t : TypeId) (x : Value) : Option Value :=
  match P.underlying t, x with
  | some (.slice _), .slice _ _ c => bif isOpn c then none else some (.int .i64 c)
  | _, _ => none
def aMax2 (x y : Value) : Option Value :=
  match x, y with
  | .int k a, .int _ b => some (.int k (if b > a then b else a))
  | _, _ => none
def aMin2 (x y : Value) : Option Value :=
  match x, y with
  | .int k a, .int _ b => some (.int k (if b < a then b else a))
  | _, _ => none
def aFold (f : Value → Value → Option Value) : Value → List Value → Option Value
  | x, [] => some x
  | x, y :: l => match f x y with
    | some v => aFold f v l
    | none => none
section
variable {P : Program} {m : Mp} {h : Heap} {w : World}
def Src (P : Program) (w : World) (i : TypeInfo) (z : Value) (xT : TypeId) (x' : Value) (n : Nat) (news' : List Value) : Prop :=
  (∃ d, P.underlying xT = some d ∧ (∀ k, d ≠ .int k) ∧ (∀ w2 : World, (Builtin.lenOf x').run P w2 = .ok n w2) ∧
          ∀ w2 : World, (∀ a, w2.cell? a = w.cell? a) → (Builtin.firstCells i.size n x').run P w2 = .ok news'.toArray w2) ∨
       (∃ k kk l, P.underlying xT = some (.int k) ∧ x' = .int kk l ∧ IntKind.i64.wrap l = n ∧ n ≤ 70368744177664 ∧ n * i.bytes ≤ 70368744177664 ∧ news' = zeroRow z.cells.toList n)
theorem Src.zeros_run {i : TypeInfo} {z : Value} {e : TypeId} {n : Nat} (hi : P.info? e = some i) (hz : i.zero = some z) (hzs : z.cells.size = i.size) (w : World) :
    (if n * i.size = 0 then pure #[] else do pure (Builtin.zeroCells (← zeroValue e).cells n) : Sem (Array Value)).run P w = .ok (zeroRow z.cells.toList n).toArray w := by
  by_cases h0 : n * i.size = 0
  · refine rp h0 ?_
    have : zeroRow z.cells.toList n = [] := List.eq_nil_of_length_eq_zero (by rw [zeroRow_length, Array.length_toList, hzs, h0])
    rw [this]; rfl
  · refine rn h0 (rb (run_zeroValue' hi hz w) ?_)
    rw [← zeroCells_eq]; simp
theorem aSrc_sim (R : Rel P m h w) {i : TypeInfo} {z : Value} {e xT : TypeId} {x x' : Value} {n : Nat} {news : List Value} (hi : P.info? e = some i) (hz : i.zero = some z) (hzs : z.cells.size = i.size) (hp : plainB 4 z = true)
    (hx : VR m x x') (ha : aSrc P h i z xT x = some (n, news)) :
    ∃ news', VRs m news news' ∧ news.length = n * i.size ∧
      Src P w i z xT x' n news' := by
  unfold aSrc at ha
  split at ha
  · rename_i k hu
    split at ha
    · rename_i kk l
      cases hx
      split at ha
      · rename_i h0
        cases hb : small (IntKind.i64.wrap l).toNat && small ((IntKind.i64.wrap l).toNat * i.bytes) with
        | false => rw [hb] at ha; cases ha
        | true =>
          rw [hb] at ha
          simp only [Bool.and_eq_true] at hb
          injection ha with ha; injection ha with e1 e2; subst e1; subst e2
          refine ⟨_, VRs.zeroRow (VR.plain (m := m) 4 z hp).cells _, by rw [zeroRow_length]; simp [hzs], .inr ⟨k, kk, l, hu, rfl, ?_, small_le hb.1, small_le hb.2, rfl⟩⟩
          rw [Int.toNat_of_nonneg h0]
      · cases ha
    · cases ha
  · rename_i d hne hu
    have hd : ∀ k, d ≠ .int k := fun k e => hne k e
    split at ha
    · injection ha with ha; injection ha with e1 e2; subst e1; subst e2
      cases hx
      exact ⟨[], VRs.nil m, by simp, .inl ⟨d, hu, hd, fun w2 => rfl, fun w2 _ => by simp [Builtin.firstCells]⟩⟩
    · rename_i k off n0 cap
      cases hn : Nat.beq n0 0 with
      | true =>
        rw [hn] at ha
        injection ha with ha; injection ha with e1 e2; subst e1; subst e2
        have h0 := Nat.eq_of_beq_eq_true hn
        subst h0
        refine ⟨[], VRs.nil m, by simp, .inl ⟨d, hu, hd, fun w2 => ?_, fun w2 _ => ?_⟩⟩ <;>
          (rcases sl_inv hx with ⟨loc, cap', hk, rfl, _⟩ | ⟨_, _, _, a, c, rfl⟩ <;> simp [Builtin.lenOf, Builtin.firstCells, loadCells, loadCellsFrom])
      | false =>
        rw [hn] at ha
        simp only [cond_false] at ha
        split at ha
        · rename_i l hl
          injection ha with ha; injection ha with e1 e2; subst e1; subst e2
          rcases sl_inv hx with ⟨loc, cap', hk, rfl, _⟩ | ⟨h0, _⟩
          · obtain ⟨l', hv, hlen, hc, _⟩ := rdN_sim R hk hl
            refine ⟨l', hv, hlen, .inl ⟨d, hu, hd, fun w2 => rfl, fun w2 hw => ?_⟩⟩
            exact run_firstCells_some w2 i.size n0 _ n0 cap' l' (by rw [← hv.1, hlen]) (fun j v hj => by rw [hw]; exact hc j v hj)
          · exact absurd h0 (beq_false hn)
        · cases ha
    · rename_i s
      cases hn : Nat.beq i.size 1 with
      | false => rw [hn] at ha; cases ha
      | true =>
        rw [hn] at ha
        injection ha with ha; injection ha with e1 e2; subst e1; subst e2
        have h1 := Nat.eq_of_beq_eq_true hn
        cases hx
        refine ⟨_, ?_, by rw [List.length_map, Array.length_toList, h1, Nat.mul_one]; rfl, .inl ⟨d, hu, hd, fun w2 => rfl, fun w2 _ => Lib.run_firstCells_string w2 i.size s⟩⟩
        rw [show Lib.strCells s = (s.data.toList.map fun b => Int.ofNat b.toNat).map (Value.int .u8) by simp [Lib.strCells]]
        rw [show (s.data.toList.map fun b => Value.int .u8 b.toNat) = (s.data.toList.map fun b => Int.ofNat b.toNat).map (Value.int .u8) by simp]
        refine ⟨rfl, fun j a b ha hb => ?_⟩
        rw [ha] at hb; injection hb with hb; subst hb
        rw [List.getElem?_map] at ha
        cases hq : (s.data.toList.map fun b => Int.ofNat b.toNat)[j]? with
        | none => rw [hq] at ha; cases ha
        | some q => rw [hq] at ha; injection ha with ha; subst ha; exact .int _ _
    · cases ha
  · cases ha
theorem run_app_room {sT xT ty e : TypeId} {i : TypeInfo} {z : Value} {x' : Value} {n : Nat} {news' : List Value} (ht : P.underlying sT = some (.slice e)) (hi : P.info? e = some i) (hz : i.zero = some z) (hzs : z.cells.size = i.size) (w : World)
    (hs : Src P w i z xT x' n news')
    (base : Option Addr) (sLen sCap : Nat) (hroom : sLen + n ≤ sCap) (w2 : World)
    (hst : ∀ a, base = some a → (storeCells (a.add (sLen * i.size)) news').run P w = .ok () w2) (hb : base = none → w2 = w) :
    (Builtin.append_ #[sT, xT] ty #[.slice base sLen sCap, x']).run P w = .ok (.slice base (sLen + n) sCap) w2 := by
  rcases hs with ⟨d, hu, hd, hlen, hf⟩ | ⟨k, kk, l, hu, rfl, hl, hn1, hn2, rfl⟩
  · refine rb (run_underlying ht w) (rb (run_sizeOf' hi w) (rb (run_underlying hu w) ?_))
    cases base with
    | none =>
      rw [hb rfl]
      cases d <;> first
        | exact absurd rfl (hd _)
        | exact rpu (rn Bool.false_ne_true (rb (hlen w) (rp hroom (rb (rp rfl (hf w (fun _ => rfl))) rfl))))
    | some a =>
      have hst' := hst a rfl
      cases d <;> first
        | exact absurd rfl (hd _)
        | exact rpu (rn Bool.false_ne_true (rb (hlen w) (rp hroom (rb (rp rfl (hf w (fun _ => rfl))) (rb hst' rfl)))))
  · have hln : ¬ (IntKind.i64.wrap l < 0) := by omega
    have h48 : ¬ (IntKind.i64.wrap l * ((i.bytes : Nat) : Int) > 2 ^ 48) := by
      have : ((n * i.bytes : Nat) : Int) = (n : Int) * (i.bytes : Int) := Int.natCast_mul _ _
      rw [hl]
      omega
    have hln' : (IntKind.i64.wrap l).toNat = n := by omega
    have ha : (asInt (.int kk l)).run P w = .ok l w := rfl
    refine rb (run_underlying ht w) (rb (run_sizeOf' hi w) (rb (run_underlying hu w) (rpu (rp rfl (rb ha (rn hln (rb (run_typeInfo w hi) (rn h48 ?_))))))))
    simp only [hln']
    refine rp hroom (rb (rn (by simp) (Src.zeros_run hi hz hzs w)) ?_)
    cases base with
    | none => rw [hb rfl]; rfl
    | some a => exact rb (hst a rfl) rfl
theorem run_app_grow {sT xT ty e : TypeId} {i : TypeInfo} {z : Value} {x' : Value} {n : Nat} {news' : List Value} (ht : P.underlying sT = some (.slice e)) (hi : P.info? e = some i) (hz : i.zero = some z) (hzs : z.cells.size = i.size) (w : World)
    (hs : Src P w i z xT x' n news')
    (base : Option Addr) (sLen sCap : Nat) (hroom : ¬ (sLen + n ≤ sCap)) (h1 : sLen + n ≤ 70368744177664) (h2 : (sLen + n) * i.bytes ≤ 70368744177664) (olds' : List Value)
    (hold : ∀ w2 : World, (∀ a, w2.cell? a = w.cell? a) → (Builtin.firstCells i.size sLen (.slice base sLen sCap)).run P w2 = .ok olds'.toArray w2) :
    (Builtin.append_ #[sT, xT] ty #[.slice base sLen sCap, x']).run P w =
      .ok (.slice (some ⟨w.heap.size, 0, none⟩) (sLen + n) (grownCap w (sLen + n) sCap e)) (w.drew.alloc (.cells (olds'.toArray ++ news'.toArray ++ Builtin.zeroCells z.cells (grownCap w (sLen + n) sCap e - (sLen + n))) e)) := by
  have hfit := growslice_fits (need := sLen + n) (old := sCap) (bytes := i.bytes) (by omega) (by omega)
  have c1 : ∀ b : Bool, ¬ (((sLen + n : Nat) : Int) > IntKind.i64.max ∧ (b = true ∨ i.bytes = 0)) := fun b h => by
    have : IntKind.i64.max = 9223372036854775807 := by decide
    omega
  have c2 : ¬ (Builtin.nextslicecap (sLen + n) sCap * i.bytes > 2 ^ 48) := by omega
  have ch : (choose (.appendCap (sLen + n) sCap e)).run P w = .ok (grownCap w (sLen + n) sCap e) w.drew := rfl
  have cd : ∀ a, w.drew.cell? a = w.cell? a := fun _ => rfl
  rcases hs with ⟨d, hu, hd, hlen, hf⟩ | ⟨k, kk, l, hu, rfl, hl, hn1, hn2, rfl⟩
  · refine rb (run_underlying ht w) (rb (run_sizeOf' hi w) (rb (run_underlying hu w) ?_))
    cases d <;> first
      | exact absurd rfl (hd _)
      | exact rpu (rn Bool.false_ne_true (rb (hlen w) (rn hroom (rb (run_typeInfo w hi) (rn (c1 false) (rb (run_typeInfo w hi) (rn c2 (rb ch (rb (run_typeInfo _ hi) (rb (run_askRoom _ _ _) (rb (hold _ cd) (rb (rp rfl (hf _ cd)) (rb (run_zeroValue' hi hz _) rfl)))))))))))))
  · have hln : ¬ (IntKind.i64.wrap l < 0) := by omega
    have h48 : ¬ (IntKind.i64.wrap l * ((i.bytes : Nat) : Int) > 2 ^ 48) := by
      have : ((n * i.bytes : Nat) : Int) = (n : Int) * (i.bytes : Int) := Int.natCast_mul _ _
      rw [hl]
      omega
    have hln' : (IntKind.i64.wrap l).toNat = n := by omega
    have ha : (asInt (.int kk l)).run P w = .ok l w := rfl
    refine rb (run_underlying ht w) (rb (run_sizeOf' hi w) (rb (run_underlying hu w) (rpu (rp rfl (rb ha (rn hln (rb (run_typeInfo w hi) (rn h48 ?_))))))))
    simp only [hln']
    exact rn hroom (rb (run_typeInfo w hi) (rn (fun h => c1 true ⟨h.1, .inl rfl⟩) (rb (run_typeInfo w hi) (rn c2 (rb ch (rb (run_typeInfo _ hi) (rb (run_askRoom _ _ _) (rb (hold _ cd) (rb (rn (by simp) (Src.zeros_run hi hz hzs _)) (rb (run_zeroValue' hi hz _) rfl)))))))))) 
theorem VRs.prefix_getD {l : List Value} {a b : Array Value} (hv : VRs m l a.toList) : ∀ (i : Nat) (v : Value), l[i]? = some v → ∃ v', (a ++ b)[i]? = some v' ∧ VR m v v' := by
  intro i v hi
  obtain ⟨v', h1, h2⟩ := hv.get hi
  have hlt : i < a.size := by
    rcases Nat.lt_or_ge i a.size with h | h
    · exact h
    · rw [List.getElem?_eq_none (by simpa using h)] at h1; cases h1
  exact ⟨v', by rw [Array.getElem?_append_left hlt]; simpa using h1, h2⟩
theorem grown_sim (R : Rel P m h w) {e : TypeId} {i : TypeInfo} {z : Value} (hi : P.info? e = some i) (hzs : z.cells.size = i.size) {cs : List Value} {cs' : Array Value} (hv : VRs m cs cs'.toList) (h1 : cs.all Value.oneCell' = true)
    {need old : Nat} (hn : need ≤ maxLen) (hl : cs.length = need * i.size) :
    ∃ m', Rel P m' (h.push (.cells cs e false)) (w.drew.alloc (.cells (cs' ++ Builtin.zeroCells z.cells (grownCap w need old e - need)) e)) ∧
      VR m' (.slice (some ⟨h.next, 0, none⟩) need opnCap) (.slice (some ⟨w.heap.size, 0, none⟩) need (grownCap w need old e)) ∧
      Fr m h w m' (h.push (.cells cs e false)) (w.drew.alloc (.cells (cs' ++ Builtin.zeroCells z.cells (grownCap w need old e - need)) e)) := by
  have hge := grownCap_ge w need old e
  have hle := grownCap_le_maxLen w need old e hn
  have hsz : (cs' ++ Builtin.zeroCells z.cells (grownCap w need old e - need)).size = grownCap w need old e * i.size := by
    have : cs.length = cs'.size := by simpa using hv.1
    rw [Array.size_append, size_zeroCells, hzs, ← this, hl, ← Nat.add_mul]
    congr 1; omega
  have hnew := R.new (w' := w.drew.alloc (.cells (cs' ++ Builtin.zeroCells z.cells (grownCap w need old e - need)) e)) (c := cs' ++ Builtin.zeroCells z.cells (grownCap w need old e - need)) (el := e) (fr := (0, 0)) rfl (cs := cs)
    ⟨w.heap.size, 0, grownCap w need old e * i.size, eszOf P e⟩ rfl hsz.symm rfl rfl (by rw [hsz, hl]; exact Nat.mul_le_mul_right _ hge) hv.prefix_getD (.inl rfl) (fun j v hj => List.all_eq_true.1 h1 v (List.mem_of_getElem? hj)) rfl rfl rfl
  exact ⟨_, hnew.1, VR.slOpn (m := m.upd h.next ⟨w.heap.size, 0, grownCap w need old e * i.size, eszOf P e⟩) h.next 0 need _ _ _ (Mp.upd_same _ _ _) (by decide) hge (by simp [eszOf, hi]) hle, hnew.2⟩
theorem aAppend_sim (R : Rel P m h w) {sT xT ty : TypeId} {s x s' x' v : Value} {h' : Heap} (hs : VR m s s') (hx : VR m x x') (ha : aAppend P h sT xT s x = some (v, h')) :
    Sim P m h w (Builtin.append_ #[sT, xT] ty #[s', x']) v h' := by
  unfold aAppend at ha
  split at ha
  · rename_i e base sLen sCap ht
    split at ha
    · rename_i i hi
      split at ha
      · rename_i z hz
        cases hb : Nat.beq z.cells.size i.size && plainB 4 z && !(Nat.beq i.size 0) with
        | false => rw [hb] at ha; cases ha
        | true =>
          rw [hb] at ha
          simp only [cond_true] at ha
          simp only [Bool.and_eq_true] at hb
          obtain ⟨⟨hb1, hb2⟩, hb3⟩ := hb
          have hzs := Nat.eq_of_beq_eq_true hb1
          split at ha
          · rename_i n news hsrc
            obtain ⟨news', hv, hlen, hS⟩ := aSrc_sim R hi hz hzs hb2 hx hsrc
            cases hn : Nat.beq n 0 with
            | true =>
              rw [hn] at ha
              simp only [cond_true] at ha
              have h0 := Nat.eq_of_beq_eq_true hn
              subst h0
              have hnil : news' = [] := List.eq_nil_of_length_eq_zero (by rw [← hv.1, hlen, Nat.zero_mul])
              cases hc : Nat.ble sLen sCap with
              | false => rw [hc] at ha; cases ha
              | true =>
                rw [hc] at ha
                injection ha with ha; injection ha with e1 e2; subst e1; subst e2
                have hle := ble_iff.1 hc
                have fin : ∀ (b : Option Addr) (c : Nat), sLen ≤ c → (Builtin.append_ #[sT, xT] ty #[.slice b sLen c, x']).run P w = .ok (.slice b sLen c) w := fun b c hc =>
                  run_app_room ht hi hz hzs w hS b sLen c (by omega) w (fun a _ => by rw [hnil]; rfl) (fun _ => rfl)
                cases base with
                | none => cases hs; exact .same R (fin none 0 (Nat.le_refl _)) .slNil
                | some a =>
                  obtain ⟨k, off, sp⟩ := a
                  have hs0 := hs
                  cases hs with
                  | sl _ _ _ _ loc hk ho => exact .same R (fin _ _ hle) hs0
                  | slOpn _ _ _ _ cap' loc hk ho hl' _ _ => exact .same R (fin _ _ hl') hs0
                  | slEmp a c => exact .same R (fin _ _ (Nat.zero_le _)) hs0
            | false =>
              rw [hn] at ha
              simp only [cond_false] at ha
              have hn0 := beq_false hn
              cases hsm : small (sLen + n) && small ((sLen + n) * i.bytes) with
              | false => rw [hsm] at ha; cases ha
              | true =>
                rw [hsm] at ha
                simp only [cond_true] at ha
                simp only [Bool.and_eq_true] at hsm
                have hsm1 := small_le hsm.1
                have hsm2 := small_le hsm.2
                have hmax : sLen + n ≤ maxLen := by unfold maxLen; omega
                split at ha
                · split at ha
                  · rename_i h2 h3
                    injection ha with ha; injection ha with e1 e2; subst e1; subst e2
                    cases hs
                    unfold aNew at h3
                    cases ho : news.all Value.oneCell' with
                    | false => rw [ho] at h3; cases h3
                    | true =>
                      rw [ho] at h3; injection h3 with h3; subst h3
                      have hrun := run_app_grow (ty := ty) ht hi hz hzs w hS none 0 0 (by omega) (by omega) (by simpa using hsm2) [] (fun w2 _ => by simp [Builtin.firstCells])
                      obtain ⟨m', R', V', F'⟩ := grown_sim R hi hzs (cs' := news'.toArray) (by simpa using hv) ho (need := n) (old := 0) (by unfold maxLen; omega) hlen
                      simp only [Nat.zero_add, Array.empty_append] at hrun
                      exact ⟨_, m', _, hrun, R', V', F'⟩
                  · cases ha
                · rename_i k off
                  cases hop : isOpn sCap with
                  | true =>
                    rw [hop] at ha
                    simp only [cond_true] at ha
                    cases hE : Nat.beq sCap 2535301200456458802993406410752 with
                    | true => rw [hE] at ha; cases ha
                    | false =>
                      rw [hE] at ha
                      simp only [cond_false] at ha
                      split at ha
                      · rename_i cs el hg
                        cases hq : Nat.beq el e && Nat.ble (off + sLen * i.size) cs.length && news.all Value.oneCell' with
                        | false => rw [hq] at ha; cases ha
                        | true =>
                          rw [hq] at ha
                          simp only [cond_true] at ha
                          injection ha with ha; injection ha with e1 e2; subst e1; subst e2
                          simp only [Bool.and_eq_true] at hq
                          obtain ⟨⟨hq1, hq2⟩, hq3⟩ := hq
                          have hel := Nat.eq_of_beq_eq_true hq1
                          subst hel
                          have hble := ble_iff.1 hq2
                          rcases sl_inv hs with ⟨loc, cap', hk, rfl, hor⟩ | ⟨_, _, hE', _⟩
                          · rcases hor with ⟨ho, _⟩ | ⟨_, hl', hz', hm'⟩
                            · rw [ho] at hop; cases hop
                            · have hrd : rdN h k off (sLen * i.size) = some ((cs.drop off).take (sLen * i.size)) := by
                                unfold rdN; rw [hg]; simp only; rw [hq2]; rfl
                              obtain ⟨olds', hvo, hlo, hco, h1o⟩ := rdN_sim R hk hrd
                              have hall : ((cs.drop off).take (sLen * i.size) ++ news).all Value.oneCell' = true := by
                                rw [List.all_append, hq3, Bool.and_true, List.all_eq_true]
                                intro v hv
                                obtain ⟨j, hj, rfl⟩ := List.getElem_of_mem hv
                                exact h1o j _ (List.getElem?_eq_getElem hj)
                              have hvn := hvo.append hv
                              have hln : ((cs.drop off).take (sLen * i.size) ++ news).length = (sLen + n) * i.size := by rw [List.length_append, hlo, hlen, Nat.add_mul]
                              obtain ⟨c, fr, c1, c2, c3, c4, c5, c6, c7⟩ := R.ent k loc cs el false hk hg
                              have hesz : loc.esz = i.size := by rw [c4, eszOf, hi]; rfl
                              by_cases hroom : sLen + n ≤ cap'
                              · -- in place
                                have hcap : loc.dl + off + (sLen + n) * i.size ≤ c.size := by
                                  rw [c2, ← hz', hesz]
                                  have := Nat.mul_le_mul_right i.size hroom
                                  omega
                                have hone := hv.one hq3
                                have hl2 : news'.length = n * i.size := by rw [← hv.1, hlen]
                                rw [Nat.add_mul] at hcap
                                have hst := run_storeCells_cells (P := P) loc.blk (loc.dl + off + sLen * i.size) news' 0 w
                                  (fun j hj => by rw [cell_at c1]; simp only [Nat.add_zero]; rw [Array.getElem?_eq_getElem (by omega)]; rfl)
                                  (fun j hj => by
                                    have := fr_ok (c6 rfl) (i := loc.dl + off + sLen * i.size + 0 + j) (by omega)
                                    simp only [World.frozen?, c1, Bool.and_eq_false_iff]
                                    by_cases hx : fr.1 ≤ loc.dl + off + sLen * i.size + 0 + j
                                    · exact .inr (by simpa using fun hy => this ⟨hx, hy⟩)
                                    · exact .inl (by simpa using hx)) hone
                                rw [Nat.add_zero] at hst
                                obtain ⟨g1, g2, g3, g4, g5, g6⟩ := setCells_heap loc.blk news' (loc.dl + off + sLen * i.size) w
                                obtain ⟨c', ga, gb⟩ := g6 c el fr c1
                                have hc's : c'.size = c.size := by rw [← Array.length_toList, gb, setL_length, Array.length_toList]
                                have hrun := run_app_room (ty := ty) ht hi hz hzs w hS (some ⟨loc.blk, loc.dl + off, none⟩) sLen cap' hroom (w.setCells loc.blk (loc.dl + off + sLen * i.size) news')
                                  (fun a ha => by injection ha with ha; subst ha; rw [add_none]; exact hst) (fun hh => by cases hh)
                                have hre := R.regrow hk hg g1 g2 ⟨loc.blk, loc.dl + off, loc.csz, loc.esz⟩ rfl (cs' := (cs.drop off).take (sLen * i.size) ++ news) (el' := el)
                                  (fun m' hm => ⟨c', fr, ga, by rw [hc's, c2], by simp only; rw [hln, Nat.add_mul]; omega, c4, fun j v hj => by
                                    simp only
                                    by_cases hjl : j < sLen * i.size
                                    · rw [List.getElem?_append_left (by rw [hlo]; exact hjl)] at hj
                                      obtain ⟨v', a, b⟩ := hvo.get hj
                                      have := hco j v' a
                                      rw [add_none, cell_at c1] at this
                                      refine ⟨v', ?_, b.mono hm⟩
                                      rw [← Array.getElem?_toList, gb, setL_get, if_neg (by omega), Array.getElem?_toList]
                                      exact this
                                    · rw [List.getElem?_append_right (by rw [hlo]; omega), hlo] at hj
                                      obtain ⟨v', a, b⟩ := hv.get hj
                                      have hjn : j - sLen * i.size < news'.length := by
                                        rcases Nat.lt_or_ge (j - sLen * i.size) news'.length with h | h
                                        · exact h
                                        · rw [List.getElem?_eq_none h] at a; cases a
                                      refine ⟨v', ?_, b.mono hm⟩
                                      rw [← Array.getElem?_toList, gb, setL_get, if_pos (by have := Array.length_toList (xs := c); omega)]
                                      rw [← a]; congr 1; omega, fun _ => by rw [hc's]; exact c6 rfl,
                                    fun j v hj => List.all_eq_true.1 hall v (List.mem_of_getElem? hj)⟩) g3 g4 g5
                                exact ⟨_, _, _, hrun, hre.1, VR.slOpn (m := m.upd h.next ⟨loc.blk, loc.dl + off, loc.csz, loc.esz⟩) h.next 0 (sLen + n) _ _ _ (Mp.upd_same _ _ _) (by decide) hroom (by simpa using hz') hm', hre.2⟩
                              · -- a new block
                                have hrun := run_app_grow (ty := ty) ht hi hz hzs w hS (some ⟨loc.blk, loc.dl + off, none⟩) sLen cap' hroom hsm1 hsm2 olds'
                                  (fun w2 hw => run_firstCells_some w2 i.size sLen _ sLen cap' olds' (by rw [← hvo.1, hlo]) (fun j v hj => by rw [hw]; exact hco j v hj))
                                obtain ⟨Rk, Fk⟩ := R.kill k
                                obtain ⟨m', R', V', F'⟩ := grown_sim Rk hi hzs (cs' := olds'.toArray ++ news'.toArray) (by simpa using hvn) hall (need := sLen + n) (old := cap') hmax hln
                                rw [Heap.next_set] at V'
                                exact ⟨_, m', _, hrun, R', V', Fk.trans F'⟩
                          · simp only [slE] at hE'
                            injection hE' with _ _ hE'
                            rw [hE'] at hE; simp at hE
                      · cases ha
                  | false =>
                    rw [hop] at ha
                    simp only [cond_false] at ha
                    rcases sl_inv hs with ⟨loc, cap', hk, rfl, hor⟩ | ⟨_, ho', _⟩
                    · rcases hor with ⟨_, rfl⟩ | ⟨ho, _⟩
                      · cases hfit : Nat.ble (sLen + n) cap' with
                        | true =>
                          rw [hfit] at ha
                          simp only [cond_true] at ha
                          split at ha
                          · rename_i h2 hw
                            injection ha with ha; injection ha with e1 e2; subst e1; subst e2
                            obtain ⟨hst, R', F'⟩ := wrN_sim R hk hw hv
                            have hrun := run_app_room (ty := ty) ht hi hz hzs w hS (some ⟨loc.blk, loc.dl + off, none⟩) sLen cap' (ble_iff.1 hfit) _
                              (fun a ha => by injection ha with ha; subst ha; rw [add_none, Nat.add_assoc]; exact hst) (fun hh => by cases hh)
                            exact ⟨_, m, _, hrun, R', .sl _ _ _ _ _ hk hop, F'⟩
                          · cases ha
                        | false =>
                          rw [hfit] at ha
                          simp only [cond_false] at ha
                          split at ha
                          · rename_i old hrd
                            split at ha
                            · rename_i h2 h3
                              injection ha with ha; injection ha with e1 e2; subst e1; subst e2
                              obtain ⟨olds', hvo, hlo, hco, h1o⟩ := rdN_sim R hk hrd
                              unfold aNew at h3
                              cases ho : (old ++ news).all Value.oneCell' with
                              | false => rw [ho] at h3; cases h3
                              | true =>
                                rw [ho] at h3; injection h3 with h3; subst h3
                                have hnf : ¬ (sLen + n ≤ cap') := fun h => by rw [ble_iff.2 h] at hfit; cases hfit
                                have hrun := run_app_grow (ty := ty) ht hi hz hzs w hS (some ⟨loc.blk, loc.dl + off, none⟩) sLen cap' hnf hsm1 hsm2 olds'
                                  (fun w2 hw => run_firstCells_some w2 i.size sLen _ sLen cap' olds' (by rw [← hvo.1, hlo]) (fun j v hj => by rw [hw]; exact hco j v hj))
                                obtain ⟨m', R', V', F'⟩ := grown_sim R hi hzs (cs' := olds'.toArray ++ news'.toArray) (by simpa using hvo.append hv) ho (need := sLen + n) (old := cap') hmax (by rw [List.length_append, hlo, hlen, Nat.add_mul])
                                exact ⟨_, m', _, hrun, R', V', F'⟩
                            · cases ha
                          · cases ha
                      · rw [ho] at hop; cases hop
                    · rw [ho'] at hop; cases hop
                · cases ha
          · cases ha
      · cases ha
    · cases ha
  · cases ha
end
end Go.AM

namespace Go.AM
open Go
def aStore (P : Program) (h : Heap) (t : TypeId) (a x : Value) : Option Heap :=
  match a, P.info? t with
  | .pointer (some ⟨k, off, none⟩), some i => bif Nat.beq x.cells.size i.size then wrN h k off x.cells.toList else none
  | _, _ => none
def aBuiltin (P : Program) (h : Heap) (b : Builtin) (ts : List TypeId) (args : List Value) : Option (Value × Heap) :=
  match b, ts, args with
  | .append, [sT, xT], [s, x] => aAppend P h sT xT s x
  | .copy, dT :: _, [d, x] => aCopy P h dT d x
  | .len, t :: _, [x] => match aLen P t x with
    | some v => some (v, h)
    | none => none
  | .cap, t :: _, [x] => match aCap P t x with
    | some v => some (v, h)
    | none => none
  | .max, _, x :: l => match aFold aMax2 x l with
    | some v => some (v, h)
    | none => none
  | .min, _, x :: l => match aFold aMin2 x l with
    | some v => some (v, h)
    | none => none
  | _, _, _ => none
def withH (h : Heap) (v : Option Value) : Option (Value × Heap) :=
  match v with
  | some v => some (v, h)
  | none => none
def aOp (P : Program) (h : Heap) (o : Op) (ρ : Operand → Value) : Option (Value × Heap) :=
  match o with
  | .move x | .assign x => some (ρ x, h)
  | .pick c a b => match ρ c with
    | .bool t => some (bif t then ρ a else ρ b, h)
    | _ => none
  | .alloc e => aAlloc P h e
  | .box e x => aBox h e (ρ x)
  | .build t ps => withH h (aBuild P t (ps.toList.map fun p => (p.1, ρ p.2)))
  | .buildSlice t n ps => aBuildSlice P h t n (ps.toList.map fun p => (p.1, ρ p.2))
  | .load t a => withH h (aLoad P h t (ρ a))
  | .store t a x => match aStore P h t (ρ a) (ρ x) with
    | some h' => some (undef, h')
    | none => none
  | .nilCheck x => match ρ x with
    | .pointer (some a) => some (.pointer (some a), h)
    | _ => none
  | .binOp op t x y _ => withH h (aBin P op t x y (ρ x) (ρ y))
  | .unOp op _ x => withH h (aUn op (ρ x))
  | .convert s d x => aConv P h s d (ρ x)
  | .makeSlice t l c => aMake P h t (ρ l) (ρ c)
  | .slice t x lo hi mx => bif mx.isSome && !hi.isSome then none else withH h (aSlice P h t (ρ x) (lo.map ρ) (hi.map ρ) (mx.map ρ))
  | .fieldAddr s x f => withH h (aFieldAddr P s (ρ x) f)
  | .field t x f => withH h (aField P t (ρ x) f)
  | .indexAddr t x i => withH h (aIndexAddr P t (ρ x) (ρ i))
  | .index t x i => withH h (aIndex P t (ρ x) (ρ i))
  | .extract t i => withH h (aExtract (ρ t) i)
  | .call ⟨.builtin b, args, ts⟩ => aBuiltin P h b ts.toList (args.toList.map ρ)
  | _ => none
def aCallee (o : Op) (ρ : Operand → Value) : Option (FuncId × List Value) :=
  match o with
  | .call ⟨.value f, args, _⟩ => match ρ f with
    | .func (.func g) first cap => some (g, first.toList ++ args.toList.map ρ ++ cap.toList)
    | _ => none
  | _ => none
def opndOK (P : Program) : Operand → Bool
  | .tmp _ => true
  | .const v => plainB 6 v
  | .global g => Nat.blt g P.globals.size
  | .func _ => true
def opOK (P : Program) (o : Op) : Bool := o.operands.toList.all (opndOK P)
section
variable {P : Program} {m : Mp} {h : Heap} {w : World}
def OSim (P : Program) (m : Mp) (h : Heap) (w : World) (s : Sem Next) (v : Value) (h' : Heap) : Prop :=
  ∃ nx v' m' w', s.run P w = .ok nx w' ∧ (nx = .value v' ∨ (nx = .skip ∧ v' = undef)) ∧ Rel P m' h' w' ∧ VR m' v v' ∧ Fr m h w m' h' w'
theorem OSim.of {s : Sem Value} {v : Value} {h' : Heap} (hs : Sim P m h w s v h') : OSim P m h w (do pure (.value (← s))) v h' := by
  obtain ⟨v', m', w', hr, R, hv, F⟩ := hs
  exact ⟨.value v', v', m', w', rb hr rfl, .inl rfl, R, hv, F⟩
theorem OSim.same {s : Sem Value} {v v' : Value} (R : Rel P m h w) (hr : s.run P w = .ok v' w) (hv : VR m v v') : OSim P m h w (do pure (.value (← s))) v h := .of (.same R hr hv)
theorem withH_some {h h' : Heap} {x : Option Value} {v : Value} (ha : withH h x = some (v, h')) : x = some v ∧ h' = h := by
  unfold withH at ha
  split at ha
  · injection ha with ha; injection ha with e1 e2; subst e1; exact ⟨rfl, e2.symm⟩
  · cases ha
theorem aCopy_sim (R : Rel P m h w) {dT : TypeId} {ts : Array TypeId} {ty : TypeId} {d x d' x' v : Value} {h' : Heap} (hts : ts[0]? = some dT) (hd : VR m d d') (hx : VR m x x') (ha : aCopy P h dT d x = some (v, h')) :
    Sim P m h w (Builtin.copy_ ts ty #[d', x']) v h' := by
  unfold aCopy at ha
  split at ha
  · rename_i e base dLen dCap hu
    split at ha
    · rename_i i hi
      split at ha
      · rename_i n news hsrc
        -- the source
        have src : ∃ k news', VRs m news news' ∧ (Builtin.lenOf x').run P w = .ok k w ∧ n = Nat.min k dLen ∧ (Builtin.firstCells i.size n x').run P w = .ok news'.toArray w ∧ (n = 0 → news' = []) := by
          split at hsrc
          · injection hsrc with hsrc; injection hsrc with e1 e2; subst e1; subst e2
            cases hx
            exact ⟨0, [], VRs.nil m, rfl, by simp, by simp [Builtin.firstCells], fun _ => rfl⟩
          · rename_i k off n0 cap
            cases hn : Nat.beq (Nat.min n0 dLen) 0 with
            | true =>
              rw [hn] at hsrc
              injection hsrc with hsrc; injection hsrc with e1 e2; subst e1; subst e2
              have h0 := Nat.eq_of_beq_eq_true hn
              rcases sl_inv hx with ⟨loc, cap', hk, rfl, _⟩ | ⟨h00, _, _, a, c, rfl⟩
              · exact ⟨n0, [], VRs.nil m, rfl, h0.symm, by simp [Builtin.firstCells, loadCells, loadCellsFrom], fun _ => rfl⟩
              · exact ⟨0, [], VRs.nil m, rfl, by simp, by simp [Builtin.firstCells, loadCells, loadCellsFrom], fun _ => rfl⟩
            | false =>
              rw [hn] at hsrc
              simp only [cond_false] at hsrc
              split at hsrc
              · rename_i l hl
                injection hsrc with hsrc; injection hsrc with e1 e2; subst e1; subst e2
                rcases sl_inv hx with ⟨loc, cap', hk, rfl, _⟩ | ⟨h00, _⟩
                · obtain ⟨l', hv, hlen, hc, _⟩ := rdN_sim R hk hl
                  exact ⟨n0, l', hv, rfl, rfl, run_firstCells_some w i.size _ _ n0 cap' l' (by rw [← hv.1, hlen]) hc, fun h0 => absurd h0 (beq_false hn)⟩
                · subst h00; exact absurd (by simp) (beq_false hn)
              · cases hsrc
          · rename_i s
            cases hn : Nat.beq i.size 1 with
            | false => rw [hn] at hsrc; cases hsrc
            | true =>
              rw [hn] at hsrc
              injection hsrc with hsrc; injection hsrc with e1 e2; subst e1; subst e2
              cases hx
              refine ⟨s.size, ((s.data.toList.take (Nat.min s.size dLen)).map fun b => Value.int .u8 b.toNat), ?_, rfl, rfl, ?_, fun h0 => by rw [h0]; rfl⟩
              · rw [show ((s.data.toList.take (Nat.min s.size dLen)).map fun b => Value.int .u8 b.toNat) = ((s.data.toList.take (Nat.min s.size dLen)).map fun b => Int.ofNat b.toNat).map (Value.int .u8) by simp; rfl]
                refine ⟨rfl, fun j a b ha hb => ?_⟩
                rw [ha] at hb; injection hb with hb; subst hb
                rw [List.getElem?_map] at ha
                cases hq : ((s.data.toList.take (Nat.min s.size dLen)).map fun b => Int.ofNat b.toNat)[j]? with
                | none => rw [hq] at ha; cases ha
                | some q => rw [hq] at ha; injection ha with ha; subst ha; exact .int _ _
              · simp only [Builtin.firstCells, Sem.run_pure]
                congr 1
                apply Array.ext'
                simp [List.map_take, List.extract_eq_take_drop]
          · cases hsrc
        obtain ⟨k, news', hv, hlenr, hnk, hfc, hnil⟩ := src
        have pre : ∀ (base' : Option Addr) (c' : Nat) (w2 : World), (∀ a, base' = some a → (storeCells a news').run P w = .ok () w2) → (base' = none → w2 = w) →
            (Builtin.copy_ ts ty #[.slice base' dLen c', x']).run P w = .ok (.int .i64 n) w2 := by
          intro base' c' w2 hs hb
          have h0 : (Builtin.copy_ ts ty #[.slice base' dLen c', x']).run P w = (do
              let n := Nat.min (← Builtin.lenOf x') dLen
              let cells ← Builtin.firstCells (← sizeOf e) n x'
              if let some a := base' then storeCells a cells.toList
              pure (goInt n) : Sem Value).run P w := by
            unfold Builtin.copy_
            simp only [hts]
            exact rb (run_underlying hu w) rfl
          rw [h0]
          refine rb hlenr (rb (run_sizeOf' hi w) ?_)
          rw [← hnk]
          refine rb hfc ?_
          cases base' with
          | none => rw [hb rfl]; rfl
          | some a => exact rb (hs a rfl) rfl
        cases hn : Nat.beq n 0 with
        | true =>
          rw [hn] at ha
          simp only [cond_true] at ha
          injection ha with ha; injection ha with e1 e2; subst e1; subst e2
          have h0 := Nat.eq_of_beq_eq_true hn
          have hz := hnil h0
          subst h0
          have go : ∀ (b : Option Addr) (c : Nat), (Builtin.copy_ ts ty #[.slice b dLen c, x']).run P w = .ok (.int .i64 0) w := fun b c => by
            have := pre b c w (fun a _ => by rw [hz]; rfl) (fun _ => rfl)
            simpa using this
          cases base with
          | none => cases hd; exact .same R (go _ _) (.int _ _)
          | some a =>
            obtain ⟨kk, off, sp⟩ := a
            cases hd with
            | sl _ _ _ _ loc hk ho => exact .same R (go _ _) (.int _ _)
            | slOpn _ _ _ _ cap' loc hk ho hl' _ _ => exact .same R (go _ _) (.int _ _)
            | slEmp a c => exact .same R (go _ _) (.int _ _)
        | false =>
          rw [hn] at ha
          simp only [cond_false] at ha
          split at ha
          · rename_i kk off
            split at ha
            · rename_i h2 hw
              injection ha with ha; injection ha with e1 e2; subst e1; subst e2
              rcases sl_inv hd with ⟨loc, cap', hk, rfl, _⟩ | ⟨h00, _⟩
              · obtain ⟨hst, R', F'⟩ := wrN_sim R hk hw hv
                exact ⟨_, m, _, pre _ _ _ (fun a ha => by injection ha with ha; subst ha; exact hst) (fun hh => by cases hh), R', .int _ _, F'⟩
              · subst h00; exact absurd (by rw [hnk]; simp) (beq_false hn)
            · cases ha
          · cases ha
      · cases ha
    · cases ha
  · cases ha
theorem aLen_sim {t ty : TypeId} {ts : Array TypeId} {x x' v : Value} (hts : ts[0]? = some t) (hx : VR m x x') (ha : aLen P t x = some v) (w : World) : (Builtin.len_ ts ty #[x']).run P w = .ok v w ∧ VR m v v := by
  unfold aLen at ha
  split at ha
  · rename_i hu; injection ha with ha; subst ha; cases hx
    exact ⟨by unfold Builtin.len_; simp only [hts]; exact rb (run_underlying hu w) rfl, .int _ _⟩
  · rename_i hu; injection ha with ha; subst ha
    exact ⟨by unfold Builtin.len_; simp only [hts]; exact rb (run_underlying hu w) rfl, .int _ _⟩
  · rename_i hu; injection ha with ha; subst ha
    cases hx <;> exact ⟨by unfold Builtin.len_; simp only [hts]; exact rb (run_underlying hu w) rfl, .int _ _⟩
  · rename_i hu; injection ha with ha; subst ha; cases hx
    exact ⟨by unfold Builtin.len_; simp only [hts]; exact rb (run_underlying hu w) rfl, .int _ _⟩
  · cases ha
theorem aCap_sim {t ty : TypeId} {ts : Array TypeId} {x x' v : Value} (hts : ts[0]? = some t) (hx : VR m x x') (ha : aCap P t x = some v) (w : World) : (Builtin.cap_ ts ty #[x']).run P w = .ok v w ∧ VR m v v := by
  unfold aCap at ha
  split at ha
  · rename_i e b n c hu
    cases ho : isOpn c with
    | true => rw [ho] at ha; cases ha
    | false =>
      rw [ho] at ha; injection ha with ha; subst ha
      have go : ∀ b', (Builtin.cap_ ts ty #[.slice b' n c]).run P w = .ok (.int .i64 c) w := fun b' => by
        unfold Builtin.cap_
        simp only [hts]
        exact rb (run_underlying hu w) rfl
      cases hx with
      | slNil => exact ⟨go _, .int _ _⟩
      | sl => exact ⟨go _, .int _ _⟩
      | slOpn _ _ _ _ _ _ _ ho' => rw [ho'] at ho; cases ho
      | slEmp => exact absurd ho (by decide)
  · cases ha
theorem aFold_sim {f : Value → Value → Option Value} {g : Value → Value → Sem Value} (hf : ∀ x y x' y' v, VR m x x' → VR m y y' → f x y = some v → ∀ w : World, ∃ v', (g x' y').run P w = .ok v' w ∧ VR m v v') :
    ∀ (l l' : List Value) (x x' v : Value), VRs m l l' → VR m x x' → aFold f x l = some v → ∀ w : World, ∃ v', (l'.foldlM g x').run P w = .ok v' w ∧ VR m v v'
  | [], l', x, x', v, hl, hx, ha, w => by
    rw [VRs.nil_inv hl]
    simp only [aFold] at ha; injection ha with ha; subst ha
    exact ⟨x', rfl, hx⟩
  | y :: l, l', x, x', v, hl, hx, ha, w => by
    obtain ⟨y', l2, rfl, h1, h2⟩ := VRs.cons_inv hl
    simp only [aFold] at ha
    split at ha
    · rename_i u hu
      obtain ⟨u', a, b⟩ := hf _ _ _ _ _ hx h1 hu w
      obtain ⟨v', c, d⟩ := aFold_sim hf l l2 u u' v h2 b ha w
      exact ⟨v', rb a c, d⟩
    · cases ha
theorem aMax2_sim (x y x' y' v : Value) (hx : VR m x x') (hy : VR m y y') (ha : aMax2 x y = some v) (w : World) : ∃ v', (Builtin.max2 x' y').run P w = .ok v' w ∧ VR m v v' := by
  unfold aMax2 at ha
  split at ha
  · injection ha with ha; subst ha; cases hx; cases hy; exact ⟨_, rfl, .int _ _⟩
  · cases ha
theorem aMin2_sim (x y x' y' v : Value) (hx : VR m x x') (hy : VR m y y') (ha : aMin2 x y = some v) (w : World) : ∃ v', (Builtin.min2 x' y').run P w = .ok v' w ∧ VR m v v' := by
  unfold aMin2 at ha
  split at ha
  · injection ha with ha; subst ha; cases hx; cases hy; exact ⟨_, rfl, .int _ _⟩
  · cases ha
theorem aBuiltin_sim (R : Rel P m h w) {b : Builtin} {ts : Array TypeId} {ty : TypeId} {cs : Array Bool} {args : List Value} {args' : Array Value} {v : Value} {h' : Heap} (hv : VRs m args args'.toList)
    (ha : aBuiltin P h b ts.toList args = some (v, h')) : OSim P m h w (builtin b ts ty cs args') v h' := by
  obtain ⟨l', rfl⟩ : ∃ l : List Value, args' = l.toArray := ⟨args'.toList, by simp⟩
  obtain ⟨lt, rfl⟩ : ∃ l : List TypeId, ts = l.toArray := ⟨ts.toList, by simp⟩
  simp only at hv ha
  unfold aBuiltin at ha
  split at ha
  · rename_i sT xT s x
    obtain ⟨s', l2, rfl, h1, h2⟩ := VRs.cons_inv hv
    obtain ⟨x', l3, rfl, h3, h4⟩ := VRs.cons_inv h2
    rw [VRs.nil_inv h4]
    exact .of (aAppend_sim R h1 h3 ha)
  · rename_i dT rest d x
    obtain ⟨s', l2, rfl, h1, h2⟩ := VRs.cons_inv hv
    obtain ⟨x', l3, rfl, h3, h4⟩ := VRs.cons_inv h2
    rw [VRs.nil_inv h4]
    exact .of (aCopy_sim R (by simp) h1 h3 ha)
  · rename_i t rest x
    obtain ⟨s', l2, rfl, h1, h2⟩ := VRs.cons_inv hv
    rw [VRs.nil_inv h2]
    split at ha
    · rename_i u hu
      injection ha with ha; injection ha with e1 e2; subst e1; subst e2
      have := aLen_sim (ty := ty) (ts := (t :: rest).toArray) (by simp) h1 hu w
      exact .same R this.1 this.2
    · cases ha
  · rename_i t rest x
    obtain ⟨s', l2, rfl, h1, h2⟩ := VRs.cons_inv hv
    rw [VRs.nil_inv h2]
    split at ha
    · rename_i u hu
      injection ha with ha; injection ha with e1 e2; subst e1; subst e2
      have := aCap_sim (ty := ty) (ts := (t :: rest).toArray) (by simp) h1 hu w
      exact .same R this.1 this.2
    · cases ha
  · rename_i x l
    obtain ⟨x', l2, rfl, h1, h2⟩ := VRs.cons_inv hv
    split at ha
    · rename_i u hu
      injection ha with ha; injection ha with e1 e2; subst e1; subst e2
      obtain ⟨v', a, b⟩ := aFold_sim (P := P) aMax2_sim l l2 x x' u h2 h1 hu w
      exact .same R (s := Builtin.max_ lt.toArray ty (x' :: l2).toArray) (by simpa [Builtin.max_] using a) b
    · cases ha
  · rename_i x l
    obtain ⟨x', l2, rfl, h1, h2⟩ := VRs.cons_inv hv
    split at ha
    · rename_i u hu
      injection ha with ha; injection ha with e1 e2; subst e1; subst e2
      obtain ⟨v', a, b⟩ := aFold_sim (P := P) aMin2_sim l l2 x x' u h2 h1 hu w
      exact .same R (s := Builtin.min_ lt.toArray ty (x' :: l2).toArray) (by simpa [Builtin.min_] using a) b
    · cases ha
  · cases ha
theorem aStore_sim (R : Rel P m h w) {t : TypeId} {a x a' x' : Value} {h' : Heap} (hA : VR m a a') (hx : VR m x x') (ha : aStore P h t a x = some h') :
    ∃ w', (Instr.storeAt t a' x').run P w = .ok () w' ∧ Rel P m h' w' ∧ Fr m h w m h' w' := by
  unfold aStore at ha
  split at ha
  · rename_i k off i hi
    cases hs : Nat.beq x.cells.size i.size with
    | false => rw [hs] at ha; cases ha
    | true =>
      rw [hs] at ha
      simp only [cond_true] at ha
      obtain ⟨loc, hk, rfl⟩ := ptr_inv hA
      obtain ⟨hst, R', F'⟩ := wrN_sim R hk ha hx.cells
      have hsz : x'.cells.size = i.size := by
        have := hx.cells.1
        simp only [Array.length_toList] at this
        rw [← this]; exact Nat.eq_of_beq_eq_true hs
      refine ⟨_, ?_, R', F'⟩
      refine rb (a := ⟨loc.blk, loc.dl + off, none⟩) (w1 := w) rfl (rb (run_sizeOf' hi w) (rn (fun hne => hne hsz) hst))
  · cases ha
theorem opndOK_all {o : Op} (ho : opOK P o = true) : ∀ x ∈ o.operands.toList, opndOK P x = true := List.all_eq_true.1 ho
theorem VRs.map {ρ ρ' : Operand → Value} (hρ : ∀ x, opndOK P x = true → VR m (ρ x) (ρ' x)) : ∀ (l : List Operand), (∀ x ∈ l, opndOK P x = true) → VRs m (l.map ρ) (l.map ρ')
  | [], _ => VRs.nil m
  | x :: l, h => VRs.cons (hρ x (h x (by simp))) (VRs.map hρ l (fun y hy => h y (by simp [hy])))
theorem VRp.map {ρ ρ' : Operand → Value} (hρ : ∀ x, opndOK P x = true → VR m (ρ x) (ρ' x)) : ∀ (l : List (Nat × Operand)), (∀ x ∈ l, opndOK P x.2 = true) → VRp m (l.map fun p => (p.1, ρ p.2)) (l.map fun p => (p.1, ρ' p.2))
  | [], _ => ⟨rfl, fun i p p' h _ => by simp at h⟩
  | x :: l, h => by
    have ih := VRp.map hρ l (fun y hy => h y (by simp [hy]))
    refine ⟨by simp, fun i p p' hp hp' => ?_⟩
    cases i with
    | zero => simp at hp hp'; subst hp; subst hp'; exact ⟨rfl, hρ _ (h x (by simp))⟩
    | succ i => exact ih.2 i p p' (by simpa using hp) (by simpa using hp')
theorem exec_builtin (ρ' : Operand → Value) (o : Oper) (b : Builtin) (args : Array Operand) (ts : Array TypeId) (hop : o.op = .call ⟨.builtin b, args, ts⟩) (w : World) :
    (execOp ρ' o).run P w = (builtin b ts o.type (args.map fun | .const _ => true | _ => false) (args.map ρ')).run P w := by
  unfold execOp
  rw [hop]
  simp only [resolve, Sem.run_bind, Sem.run_pure, Result.andThen_ok]
  rfl
theorem aOp_sim (R : Rel P m h w) {o : Oper} {ρ ρ' : Operand → Value} {v : Value} {h' : Heap} (ho : opOK P o.op = true) (hρ : ∀ x, opndOK P x = true → VR m (ρ x) (ρ' x)) (ha : aOp P h o.op ρ = some (v, h')) :
    OSim P m h w (execOp ρ' o) v h' := by
  have hall := opndOK_all ho
  have get : ∀ x, x ∈ o.op.operands.toList → VR m (ρ x) (ρ' x) := fun x hx => hρ x (hall x hx)
  unfold aOp at ha
  split at ha
  · rename_i x hop
    injection ha with ha; injection ha with e1 e2; subst e1; subst e2
    rw [hop] at get
    exact ⟨.value (ρ' x), ρ' x, m, w, by simp [execOp, hop], .inl rfl, R, get x (by simp [Op.operands]), Fr.refl m h w⟩
  · rename_i x hop
    injection ha with ha; injection ha with e1 e2; subst e1; subst e2
    rw [hop] at get
    exact ⟨.value (ρ' x), ρ' x, m, w, by simp [execOp, hop], .inl rfl, R, get x (by simp [Op.operands]), Fr.refl m h w⟩
  · rename_i c a b hop
    rw [hop] at get
    split at ha
    · rename_i t hc
      injection ha with ha; injection ha with e1 e2; subst e1; subst e2
      have hcv := get c (by simp [Op.operands])
      rw [hc] at hcv
      have hc' : ρ' c = .bool t := by cases hcv' : ρ' c <;> rw [hcv'] at hcv <;> cases hcv; rfl
      refine ⟨.value (if t = true then ρ' a else ρ' b), _, m, w, by simp [execOp, hop, hc', asBool], .inl rfl, R, ?_, Fr.refl m h w⟩
      cases t
      · exact get b (by simp [Op.operands])
      · exact get a (by simp [Op.operands])
    · cases ha
  · rename_i e hop
    have := OSim.of (aAlloc_sim R ha)
    unfold execOp; rw [hop]; exact this
  · rename_i e x hop
    rw [hop] at get
    have := OSim.of (aBox_sim R (get x (by simp [Op.operands])) ha)
    unfold execOp; rw [hop]; exact this
  · rename_i t ps hop
    rw [hop] at hall
    obtain ⟨hb, he⟩ := withH_some ha; clear ha; subst he
    have hp := VRp.map hρ ps.toList (fun x hx => hall x.2 (by simp only [Op.operands, List.mem_map]; exact ⟨x, hx, rfl⟩))
    obtain ⟨v', a, b⟩ := aBuild_sim (parts' := ps.map fun p => (p.1, ρ' p.2)) (by simpa using hp) hb w
    have := OSim.same R a b
    unfold execOp; rw [hop]; exact this
  · rename_i t n ps hop
    rw [hop] at hall
    have hp := VRp.map hρ ps.toList (fun x hx => hall x.2 (by simp only [Op.operands, List.mem_map]; exact ⟨x, hx, rfl⟩))
    have := OSim.of (aBuildSlice_sim R (parts' := ps.map fun p => (p.1, ρ' p.2)) (by simpa using hp) ha)
    unfold execOp; rw [hop]; exact this
  · rename_i t a hop
    rw [hop] at get
    obtain ⟨hb, he⟩ := withH_some ha; clear ha; subst he
    obtain ⟨v', c, d⟩ := aLoad_sim R (get a (by simp [Op.operands])) hb
    have := OSim.same R c d
    unfold execOp; rw [hop]; exact this
  · rename_i t a x hop
    rw [hop] at get
    split at ha
    · rename_i h2 hs
      injection ha with ha; injection ha with e1 e2; subst e1; subst e2
      obtain ⟨w', hr, R', F'⟩ := aStore_sim R (get a (by simp [Op.operands])) (get x (by simp [Op.operands])) hs
      exact ⟨.skip, undef, m, w', by unfold execOp; rw [hop]; exact rb hr rfl, .inr ⟨rfl, rfl⟩, R', VR.undef m, F'⟩
    · cases ha
  · rename_i x hop
    rw [hop] at get
    split at ha
    · rename_i a hx
      injection ha with ha; injection ha with e1 e2; subst e1; subst e2
      have hv := get x (by simp [Op.operands])
      rw [hx] at hv
      refine ⟨.value (ρ' x), ρ' x, m, w, ?_, .inl rfl, R, hv, Fr.refl m h w⟩
      unfold execOp; rw [hop]
      dsimp only
      cases hv' : ρ' x <;> rw [hv'] at hv <;> cases hv
      rfl
    · cases ha
  · rename_i op t x y ty hop
    rw [hop] at get
    obtain ⟨hb, he⟩ := withH_some ha; clear ha; subst he
    obtain ⟨g, r, hv⟩ := aBin_sim (get x (by simp [Op.operands])) (get y (by simp [Op.operands])) hb w
    have := OSim.same (s := do eqGuard op t x y (ρ' x) (ρ' y); binOp op t (ρ' x) (ρ' y)) R (rb g r) hv
    unfold execOp; rw [hop]; exact this
  · rename_i op t x hop
    rw [hop] at get
    obtain ⟨hb, he⟩ := withH_some ha; clear ha; subst he
    obtain ⟨r, hv⟩ := aUn_sim (P := P) (get x (by simp [Op.operands])) hb w
    have := OSim.same R r hv
    unfold execOp; rw [hop]; exact this
  · rename_i s d x hop
    rw [hop] at get
    have := OSim.of (aConv_sim R (get x (by simp [Op.operands])) ha)
    unfold execOp; rw [hop]; exact this
  · rename_i t l c hop
    rw [hop] at get
    have := OSim.of (aMake_sim R (get l (by simp [Op.operands])) (get c (by simp [Op.operands])) ha)
    unfold execOp; rw [hop]; exact this
  · rename_i t x lo hi mx hop
    rw [hop] at get
    cases hno : mx.isSome && !hi.isSome with
    | true => rw [hno] at ha; cases ha
    | false =>
      rw [hno] at ha
      simp only [cond_false] at ha
      obtain ⟨hb, he⟩ := withH_some ha; clear ha; subst he
      have ov : ∀ y : Option Operand, (∀ z, y = some z → z ∈ (Op.slice t x lo hi mx).operands.toList) → VRo m (y.map ρ) (y.map ρ') := fun y hy => by
        cases y with
        | none => trivial
        | some z => exact get z (hy z rfl)
      obtain ⟨v', c, d⟩ := aSlice_sim R (get x (by simp [Op.operands])) (ov lo (fun z hz => by subst hz; simp [Op.operands])) (ov hi (fun z hz => by subst hz; simp [Op.operands])) (ov mx (fun z hz => by subst hz; simp [Op.operands]))
        (by cases mx <;> cases hi <;> simp_all) hb
      have := OSim.same R c d
      unfold execOp; rw [hop]; exact this
  · rename_i s x f hop
    rw [hop] at get
    obtain ⟨hb, he⟩ := withH_some ha; clear ha; subst he
    obtain ⟨v', c, d⟩ := aFieldAddr_sim (get x (by simp [Op.operands])) hb w
    have := OSim.same R c d
    unfold execOp; rw [hop]; exact this
  · rename_i s x f hop
    rw [hop] at get
    obtain ⟨hb, he⟩ := withH_some ha; clear ha; subst he
    obtain ⟨v', c, d⟩ := aField_sim (get x (by simp [Op.operands])) hb w
    have := OSim.same R c d
    unfold execOp; rw [hop]; exact this
  · rename_i t x i hop
    rw [hop] at get
    obtain ⟨hb, he⟩ := withH_some ha; clear ha; subst he
    obtain ⟨v', c, d⟩ := aIndexAddr_sim (get x (by simp [Op.operands])) (get i (by simp [Op.operands])) hb w
    have := OSim.same R c d
    unfold execOp; rw [hop]; exact this
  · rename_i t x i hop
    rw [hop] at get
    obtain ⟨hb, he⟩ := withH_some ha; clear ha; subst he
    obtain ⟨v', c, d⟩ := aIndex_sim (get x (by simp [Op.operands])) (get i (by simp [Op.operands])) hb w
    have := OSim.same R c d
    unfold execOp; rw [hop]; exact this
  · rename_i t i hop
    rw [hop] at get
    obtain ⟨hb, he⟩ := withH_some ha; clear ha; subst he
    obtain ⟨v', c, d⟩ := aExtract_sim (P := P) (get t (by simp [Op.operands])) hb w
    have := OSim.same R c d
    unfold execOp; rw [hop]; exact this
  · rename_i b args ts hop
    rw [hop] at hall
    have hv := VRs.map hρ args.toList (fun x hx => hall x (by simp [Op.operands, Call.operands, hx]))
    have := aBuiltin_sim R (ty := o.type) (cs := args.map fun | .const _ => true | _ => false) (args' := args.map ρ') (by simpa using hv) ha
    obtain ⟨nx, v', m', w', hr, rest⟩ := this
    exact ⟨nx, v', m', w', (exec_builtin ρ' o b args ts hop w).trans hr, rest⟩
  · cases ha
end
end Go.AM
