/- The abstract machine, part 6: structs and slices that are built, make, conversions, append, copy: each beside the model's. -/
import Derived.Test.YtafnialikielkaaAm5
namespace Go.AM
open Go

section
variable {P : Program} {m : Mp} {h : Heap} {w : World}

theorem rb {α β : Type} {s : Sem α} {f : α → Sem β} {a : α} {w w1 : World} {r : Result β} (h : s.run P w = .ok a w1) (h2 : (f a).run P w1 = r) : (s >>= f).run P w = r := by
  rw [Sem.run_bind, h]; exact h2
theorem rp {α : Type} {c : Prop} [Decidable c] {x y : Sem α} {w : World} {r : Result α} (h : c) (h2 : x.run P w = r) : (if c then x else y).run P w = r := by
  rw [if_pos h]; exact h2
theorem rn {α : Type} {c : Prop} [Decidable c] {x y : Sem α} {w : World} {r : Result α} (h : ¬ c) (h2 : y.run P w = r) : (if c then x else y).run P w = r := by
  rw [if_neg h]; exact h2

theorem rpu {α β : Type} {f : α → Sem β} {a : α} {w : World} {r : Result β} (h2 : (f a).run P w = r) : (pure a >>= f).run P w = r := by
  rw [Sem.run_bind]; exact h2

theorem aPlaces_run : ∀ (fs : List Field) (l : List (Nat × Nat)), aPlaces P fs = some l → ∀ w : World,
    (fs.mapM fun f => do pure (f.offset, ← sizeOf f.type) : Sem (List (Nat × Nat))).run P w = .ok l w
  | [], l, ha, w => by simp only [aPlaces] at ha; injection ha with ha; subst ha; rfl
  | f :: fs, l, ha, w => by
    simp only [aPlaces] at ha
    split at ha
    · rename_i i hi
      split at ha
      · rename_i l' hl
        injection ha with ha; subst ha
        have ih := aPlaces_run fs l' hl
        simp only [List.mapM_cons, Sem.run_bind, run_sizeOf' hi, Result.andThen_ok, Sem.run_pure, ih]
      · cases ha
    · cases ha

theorem aBuild_sim {t : TypeId} {parts : List (Nat × Value)} {parts' : Array (Nat × Value)} {v : Value} (hp : VRp m parts parts'.toList) (ha : aBuild P t parts = some v) (w : World) :
    ∃ v', (Instr.build t parts').run P w = .ok v' w ∧ VR m v v' := by
  unfold aBuild at ha
  split at ha
  · rename_i i hi
    split at ha
    · rename_i z hz
      cases hpl : plainB 4 z with
      | false => rw [hpl] at ha; cases ha
      | true =>
        rw [hpl] at ha
        simp only [cond_true] at ha
        have hzc := (VR.plain (m := m) 4 z hpl).cells
        split at ha
        · rename_i fs hu
          split at ha
          · rename_i pl hpls
            split at ha
            · rename_i cs hf
              injection ha with ha; subst ha
              obtain ⟨r', a, b⟩ := aFill_sim _ parts parts'.toList z.cells.toList z.cells cs hp hzc hf
              have hm := aPlaces_run fs.toList pl hpls w
              refine ⟨.agg r', ?_, ?_⟩
              · obtain ⟨l, rfl⟩ : ∃ l : List Field, fs = l.toArray := ⟨fs.toList, by simp⟩
                simp at hm
                simp [Instr.build, run_zeroValue' hi hz, run_underlying hu, hm, a]
              · have := VR.agg' b; simpa using this
            · cases ha
          · cases ha
        · rename_i n e hu
          split at ha
          · rename_i ie hie
            split at ha
            · rename_i cs hf
              injection ha with ha; subst ha
              obtain ⟨r', a, b⟩ := aFill_sim _ parts parts'.toList z.cells.toList z.cells cs hp hzc hf
              refine ⟨.agg r', by simp [Instr.build, run_zeroValue' hi hz, run_underlying hu, run_sizeOf' hie, a], ?_⟩
              have := VR.agg' b; simpa using this
            · cases ha
          · cases ha
        · cases ha
    · cases ha
  · cases ha

theorem zeroRow_eq (z : Array Value) (n : Nat) : ((Array.range (n * z.size)).map (z[· % z.size]!)).toList = zeroRow z.toList n := by
  simp only [Array.toList_map, Array.toList_range, zeroRow, Array.length_toList]
  apply List.map_congr_left
  intro i hi
  rw [List.mem_range] at hi
  have hp : 0 < z.size := by
    rcases Nat.eq_zero_or_pos z.size with h0 | h0
    · rw [h0] at hi; omega
    · exact h0
  have hlt : i % z.size < z.size := Nat.mod_lt _ hp
  rw [getElem!_pos z _ hlt, List.getD_eq_getElem?_getD, Array.getElem?_toList, Array.getElem?_eq_getElem hlt]
  rfl

theorem zeroCells_eq (z : Array Value) (n : Nat) : (Builtin.zeroCells z n).toList = zeroRow z.toList n := zeroRow_eq z n

theorem zeroRow_length (z : List Value) (n : Nat) : (zeroRow z n).length = n * z.length := by simp [zeroRow]

theorem VRs.zeroRow {z : List Value} (hz : VRs m z z) (n : Nat) : VRs m (zeroRow z n) (zeroRow z n) := by
  refine ⟨rfl, fun i v v' a b => ?_⟩
  rw [a] at b; injection b with b; subst b
  have := List.mem_of_getElem? a
  simp only [AM.zeroRow, List.mem_map] at this
  obtain ⟨j, _, rfl⟩ := this
  exact hz.getD _ (VR.undef m)

theorem small_le {n : Nat} (h : small n = true) : n ≤ 70368744177664 := ble_iff.1 h

theorem aBuildSlice_sim (R : Rel P m h w) {t : TypeId} {len : Nat} {parts : List (Nat × Value)} {parts' : Array (Nat × Value)} {v : Value} {h' : Heap} (hp : VRp m parts parts'.toList)
    (ha : aBuildSlice P h t len parts = some (v, h')) : Sim P m h w (Instr.buildSlice t len parts') v h' := by
  unfold aBuildSlice at ha
  split at ha
  · rename_i e hu
    split at ha
    · rename_i i hi
      split at ha
      · rename_i z hz
        cases hc : Nat.ble (len * i.size) 1048576 && Nat.ble len 1048576 && Nat.beq z.cells.size i.size && plainB 4 z with
        | false => rw [hc] at ha; cases ha
        | true =>
          rw [hc] at ha
          simp only [cond_true] at ha
          simp only [Bool.and_eq_true] at hc
          obtain ⟨⟨⟨hc1, hc0⟩, hc2⟩, hc3⟩ := hc
          have hb := ble_iff.1 hc1
          have hs := Nat.eq_of_beq_eq_true hc2
          have hzc := (VR.plain (m := m) 4 z hc3).cells
          split at ha
          · rename_i cs hf
            split at ha
            · rename_i h2 h3
              injection ha with ha; injection ha with e1 e2; subst e1; subst e2
              have hrow := VRs.zeroRow hzc len
              obtain ⟨r', a, b⟩ := aFill_sim (fun k => some (k * i.size, i.size)) parts parts'.toList _ ((Array.range (len * z.cells.size)).map (z.cells[· % z.cells.size]!)) cs hp (by rw [zeroRow_eq]; exact hrow) hf
              obtain ⟨_, hr, R', F⟩ := aNew_sim R b h3
              refine ⟨.slice (some ⟨w.heap.size, 0, none⟩) len len, _, _, ?_, R', ?_, F⟩
              · have h24 : ¬ (16777216 < len * i.size) := by omega
                by_cases h0 : len * i.size = 0
                · have e0 : (Array.range (len * z.cells.size)).map (z.cells[· % z.cells.size]!) = #[] := by rw [hs, h0]; simp
                  have ha0 : Instr.fill (fun k => some (k * i.size, i.size)) #[] parts'.toList = some r' := by
                    rw [← a, e0]
                  have er : Array.range 0 = (#[] : Array Nat) := rfl
                  simp [Instr.buildSlice, run_underlying hu, run_sizeOf' hi, h0, er, ha0, hr]
                · rw [hs] at a
                  have a' : Instr.fill (fun k => some (k * i.size, i.size)) ((Array.range (len * i.size)).map (z.cells[· % z.cells.size]!)) parts'.toList = some r' := by rw [hs]; exact a
                  simp [Instr.buildSlice, run_underlying hu, run_sizeOf' hi, h24, h0, run_zeroValue' hi hz, a', hr]
              · exact VR.sl (m := m.upd h.next ⟨w.heap.size, 0, r'.size, eszOf P e⟩) h.next 0 len len _ (Mp.upd_same _ _ _) (isOpn_sub (a := 1048576) (by decide) (ble_iff.1 hc0))
            · cases ha
          · cases ha
      · cases ha
    · cases ha
  · cases ha

theorem aMake_sim (R : Rel P m h w) {t : TypeId} {l c l' c' v : Value} {h' : Heap} (hl : VR m l l') (hc : VR m c c') (ha : aMake P h t l c = some (v, h')) : Sim P m h w (Instr.makeSlice t l' c') v h' := by
  unfold aMake at ha
  split at ha
  · rename_i e k1 l k2 c hu
    cases hl; cases hc
    split at ha
    · rename_i i hi
      split at ha
      · rename_i z hz
        split at ha
        · rename_i hlc
          cases hb : small (c.toNat * i.bytes) && small c.toNat && Nat.beq z.cells.size i.size && plainB 4 z with
          | false => rw [hb] at ha; cases ha
          | true =>
            rw [hb] at ha
            simp only [cond_true] at ha
            simp only [Bool.and_eq_true] at hb
            obtain ⟨⟨⟨hb1, hb2⟩, hb3⟩, hb4⟩ := hb
            have hs1 := small_le hb1
            have hs2 := small_le hb2
            have hs := Nat.eq_of_beq_eq_true hb3
            have hzc := (VR.plain (m := m) 4 z hb4).cells
            split at ha
            · rename_i h2 h3
              injection ha with ha; injection ha with e1 e2; subst e1; subst e2
              have hrow := VRs.zeroRow hzc c.toNat
              rw [← zeroRow_eq] at hrow
              have hrow2 : VRs m (zeroRow z.cells.toList c.toNat) ((Array.range (c.toNat * z.cells.size)).map (z.cells[· % z.cells.size]!)).toList := by rw [zeroRow_eq] at hrow ⊢; exact hrow
              obtain ⟨_, hr, R', F⟩ := aNew_sim R hrow2 h3
              refine ⟨.slice (some ⟨w.heap.size, 0, none⟩) l.toNat c.toNat, _, _, ?_, R', VR.sl (m := m.upd h.next _) h.next 0 l.toNat c.toNat _ (Mp.upd_same _ _ _) (isOpn_sub (a := 70368744177664) (by decide) hs2), F⟩
              have wl : IntKind.i64.wrap l = l := by simp only [IntKind.wrap, IntKind.bits, IntKind.signed]; simp; omega
              have wc : IntKind.i64.wrap c = c := by simp only [IntKind.wrap, IntKind.bits, IntKind.signed]; simp; omega
              have t1 : ¬ (c < 0) := by omega
              have t2 : ¬ ((281474976710656 : Int) < (i.bytes : Int) * c) := by
                have : (i.bytes : Int) * c = ((c.toNat * i.bytes : Nat) : Int) := by
                  rw [Int.natCast_mul, Int.toNat_of_nonneg (by omega), Int.mul_comm]
                omega
              have t3 : ¬ (l < 0) := by omega
              have t4 : ¬ (c < l) := by omega
              by_cases h0 : c.toNat * i.size = 0
              · have er : Array.range 0 = (#[] : Array Nat) := rfl
                have e0 : (Array.range (c.toNat * z.cells.size)).map (z.cells[· % z.cells.size]!) = #[] := by rw [hs, h0, er]; simp
                rw [e0] at hr
                rw [e0]
                simp [Instr.makeSlice, run_underlying hu, asInt, asIntOf, run_typeInfo w hi, run_sizeOf' hi, wl, wc, t1, t2, t3, t4, h0, er, hr]
              · have hr' : (newRow e ((Array.range (c.toNat * i.size)).map (z.cells[· % z.cells.size]!))).run P w = .ok ⟨w.heap.size, 0, none⟩ (w.alloc (.cells ((Array.range (c.toNat * z.cells.size)).map (z.cells[· % z.cells.size]!)) e)) := by rw [← hs]; exact hr
                simp [Instr.makeSlice, run_underlying hu, asInt, asIntOf, run_typeInfo w hi, run_sizeOf' hi, run_zeroValue' hi hz, wl, wc, t1, t2, t3, t4, h0, hr']
            · cases ha
        · cases ha
      · cases ha
    · cases ha
  · cases ha

theorem intsOf_eq : ∀ (l : List Value) (ns : List Int), intsOf l = some ns → l = ns.map (Value.int .u8)
  | [], ns, h => by simp only [intsOf] at h; injection h with h; subst h; rfl
  | v :: l, ns, h => by
    simp only [intsOf] at h
    split at h
    · split at h
      · rename_i r hr
        injection h with h; subst h
        rw [intsOf_eq l r hr]; rfl
      · cases h
    · cases h

theorem VRs.ints {k : IntKind} : ∀ {ns : List Int} {l' : List Value}, VRs m (ns.map (Value.int k)) l' → l' = ns.map (Value.int k)
  | [], l', h => VRs.nil_inv h
  | n :: ns, l', h => by
    obtain ⟨v', l2, rfl, h1, h2⟩ := VRs.cons_inv h
    cases h1
    rw [VRs.ints h2]; rfl

theorem aConv_sim (R : Rel P m h w) {src dst : TypeId} {x x' v : Value} {h' : Heap} (hx : VR m x x') (ha : aConv P h src dst x = some (v, h')) : Sim P m h w (convert src dst x') v h' := by
  unfold aConv at ha
  split at ha
  · rename_i d k k' n hs hd
    injection ha with ha; injection ha with e1 e2; subst e1; subst e2
    cases hx
    exact .same R (by simp [convert, run_underlying hs, run_underlying hd, Conv.intToInt]) (.int _ _)
  · rename_i d s hs hd
    injection ha with ha; injection ha with e1 e2; subst e1; subst e2
    cases hx
    exact .same R (by simp [convert, run_underlying hs, run_underlying hd]) (.string _)
  · rename_i e l c hs hd
    split at ha
    · rename_i he
      injection ha with ha; injection ha with e1 e2; subst e1; subst e2
      cases hx
      exact .same R (run_convert_bytes_nil w src e hs he 0 0 dst hd) (.string _)
    · cases ha
  · rename_i e k off len cap hs hd
    split at ha
    · rename_i he
      cases hl : Nat.beq len 0 with
      | true =>
        rw [hl] at ha
        injection ha with ha; injection ha with e1 e2; subst e1; subst e2
        have h0 := Nat.eq_of_beq_eq_true hl
        subst h0
        have emp : ∀ (a : Addr) (c : Nat), (convert src dst (.slice (some a) 0 c)).run P w = .ok (.string .empty) w := fun a c => by
          rw [run_convert_bytes_string w src dst e _ 0 c hs he hd]
          simp [Conv.bytesToString, loadCells, loadCellsFrom]
        rcases sl_inv hx with ⟨loc, cap', hk, rfl, _⟩ | ⟨_, _, _, a, c, rfl⟩
        · exact .same R (emp _ _) (.string _)
        · exact .same R (emp _ _) (.string _)
      | false =>
        rw [hl] at ha
        simp only [cond_false] at ha
        have hne := beq_false hl
        split at ha
        · rename_i l hr
          split at ha
          · rename_i ns hns
            injection ha with ha; injection ha with e1 e2; subst e1; subst e2
            rcases sl_inv hx with ⟨loc, cap', hk, rfl, _⟩ | ⟨h0, _⟩
            · obtain ⟨l', hv, hlen, hc, _⟩ := rdN_sim R hk hr
              rw [intsOf_eq l ns hns] at hv hlen
              have hl' := VRs.ints hv
              subst hl'
              have := run_loadCells_list (P := P) w _ _ hc
              rw [hlen] at this
              refine .same R ?_ (.string _)
              rw [run_convert_bytes_string w src dst e _ len cap' hs he hd, run_bytesToString w _ len cap' ns this, foldl_push_bytes]
              simp [strOfNums, ByteArray.empty, ByteArray.emptyWithCapacity]
              rfl
            · exact absurd h0 hne
          · cases ha
        · cases ha
    · cases ha
  · rename_i e0 e k off len cap hs hd
    split at ha
    · rename_i cs el he hg
      cases hb : Nat.beq src dst && !(Nat.beq cap 2535301200456458802993406410752) with
      | false => rw [hb] at ha; cases ha
      | true =>
        rw [hb] at ha
        simp only [Bool.and_eq_true] at hb
        obtain ⟨hb, hbm⟩ := hb
        injection ha with ha; injection ha with e1 e2; subst e1; subst e2
        have hsd := Nat.eq_of_beq_eq_true hb
        subst hsd
        have hx0 := hx
        rcases sl_inv hx with ⟨loc, cap', hk, rfl, _⟩ | ⟨_, _, hE, _⟩
        · obtain ⟨c, fr, c1, c2, c3, c4, c5, c6, c7⟩ := R.ent k loc cs el false hk hg
          obtain ⟨lo, hi⟩ := fr
          have hheap : (w.freeze ⟨loc.blk, c.size, none⟩ 1).heap[loc.blk]? = some (.cells c el (if lo == hi then (c.size, c.size + 1) else (min lo c.size, max hi (c.size + 1)))) := by
            simp [World.freeze, Array.getElem?_modify, c1]
          have ht := R.touch (w' := w.freeze ⟨loc.blk, c.size, none⟩ 1) hk hg (by simp [World.freeze]) (fun b hb => by
              simp only [World.freeze, Array.getElem?_modify]
              rw [if_neg (by simp)]
              simp only [Array.getElem?_modify]
              rw [if_neg (fun e => hb e.symm)])
            ⟨c, _, hheap, c2, c3, c4, c5, fun _ => by
              have := c6 rfl
              simp only at this
              split
              · exact .inr (Nat.le_refl _)
              · rename_i hne
                have : ¬ lo = hi := by simpa using hne
                exact .inr (by simp only; omega), c7⟩ rfl rfl rfl
          refine ⟨_, m, _, ?_, ht.1, hx0, ht.2⟩
          have hmark : (markStringish ⟨loc.blk, loc.dl + off, none⟩).run P w = .ok () (w.freeze ⟨loc.blk, c.size, none⟩ 1) := by
            simp [markStringish, World.shape?, c1]
          have h0 : (convert src src (.slice (some ⟨loc.blk, loc.dl + off, none⟩) len cap')).run P w = (do markStringish ⟨loc.blk, loc.dl + off, none⟩; pure (.slice (some ⟨loc.blk, loc.dl + off, none⟩) len cap') : Sem Value).run P w := by
            have hee : e0 = e := by rw [hs] at hd; injection hd with hd; injection hd
            subst hee
            simp [convert, run_underlying hs, run_underlying he]
          rw [h0]
          exact rb hmark rfl
        · exfalso
          simp only [slE] at hE
          injection hE with _ _ hE'
          rw [hE'] at hbm; simp at hbm
    · cases ha
  · rename_i d e s hs hd
    split at ha
    · rename_i i he hi
      cases hb : small s.size && Nat.beq i.size 1 with
      | false => rw [hb] at ha; cases ha
      | true =>
        rw [hb] at ha
        simp only [cond_true] at ha
        simp only [Bool.and_eq_true] at hb
        have hsm := small_le hb.1
        have hi1 := Nat.eq_of_beq_eq_true hb.2
        split at ha
        · rename_i h2 h3
          injection ha with ha; injection ha with e1 e2; subst e1; subst e2
          cases hx
          unfold aNew at h3
          cases ho : (s.data.toList.map fun b => Value.int .u8 b.toNat).all Value.oneCell' with
          | false => rw [ho] at h3; cases h3
          | true =>
            rw [ho] at h3; injection h3 with h3; subst h3
            have hge := grownCap_ge w s.size 0 e
            have hlem := grownCap_le_maxLen w s.size 0 e (by unfold maxLen; omega)
            have hsz : s.data.toList.length = s.size := by rw [Array.length_toList]; rfl
            have hsz' : s.data.size = s.size := rfl
            obtain ⟨c, hc⟩ : ∃ c : Array Value, c = Lib.bytesCells w e s := ⟨_, rfl⟩
            have hcs : c.size = grownCap w s.size 0 e := by rw [hc, Lib.bytesCells]; simp only [Array.size_append, Array.size_map, Array.size_replicate, hsz']; omega
            have hheap : (Lib.bytesWorld w e s).heap = w.heap.push (.cells c e (c.size, c.size + 1)) := by
              apply Array.ext_getElem?
              intro j
              rw [Array.getElem?_push]
              by_cases h1 : j = w.heap.size
              · rw [if_pos h1, h1, hc]; exact Lib.bytesWorld_at_new w e s
              · rw [if_neg h1]
                by_cases h2 : j < w.heap.size
                · exact Lib.bytesWorld_at_old w e s j h2
                · rw [Array.getElem?_eq_none (by rw [Lib.bytesWorld_size]; omega), Array.getElem?_eq_none (by omega)]
            have hnew := R.new (w' := Lib.bytesWorld w e s) (c := c) (el := e) (fr := (c.size, c.size + 1)) hheap
              (cs := s.data.toList.map fun b => Value.int .u8 b.toNat) ⟨w.heap.size, 0, c.size, eszOf P e⟩ rfl rfl rfl rfl (by rw [List.length_map, hsz, hcs]; exact hge)
              (fun i v hv => by
                have hil : i < s.data.toList.length := by
                  rcases Nat.lt_or_ge i s.data.toList.length with h' | h'
                  · exact h'
                  · rw [List.getElem?_eq_none (by simpa using h')] at hv; cases hv
                refine ⟨v, ?_, ?_⟩
                · rw [hc, Lib.bytesCells, Array.getElem?_append_left (by simpa using hil)]
                  rw [← hv]; simp
                · rw [List.getElem?_map] at hv
                  cases hq : s.data.toList[i]? with
                  | none => rw [hq] at hv; cases hv
                  | some q => rw [hq] at hv; injection hv with hv; subst hv; exact .int _ _)
              (.inr (Nat.le_refl _)) (fun i v hv => List.all_eq_true.1 ho v (List.mem_of_getElem? hv)) rfl rfl rfl
            exact ⟨_, _, _, Lib.run_convert_string_bytes w src dst e s hs hd he, hnew.1,
              VR.slOpn (m := m.upd h.next ⟨w.heap.size, 0, c.size, eszOf P e⟩) h.next 0 s.size _ _ _ (Mp.upd_same _ _ _) (by decide) hge (by simp only [eszOf, hi, Option.map_some, Option.getD_some, hi1, hcs]; omega) hlem, hnew.2⟩
        · cases ha
    · cases ha
  · cases ha
end
end Go.AM
